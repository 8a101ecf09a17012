import Derived.Test.YtagdejckmpipbaaGreatDoorT5
import Derived.Test.YtagdejckmpipbaaGreatDoorT4
set_option linter.unusedVariables false
set_option linter.unusedSimpArgs false
open Go Go.Proofs Ve
namespace VeT
def OkM(ps:List Tx)(p:Int)(st:Sim)(a:Arw)(t:Nat):Prop:=(rdL (ps.getD (3+t) [])).2=true∧qgo (rdL (ps.getD (3+t) [])).1 p∧((rdL (ps.getD (3+t) [])).1.length:Int)=st.getD a.1.toNat 0*st.getD a.2.2.1.toNat 0
theorem qpQ{ps:List Tx}(hc:VC (pC ps))(hp:Pr (pP ps))(hs:SK (pC ps) (pS ps))(ho:∀ t,t<(qaJ (pC ps) (pC ps).length).length→OkM ps (pP ps) (pS ps) ((qaJ (pC ps) (pC ps).length).getD t az) t) :
  VS (pX ps).1 (pX ps).2.1 (pX ps).2.2.1 (pX ps).2.2.2.1:=by
 refine⟨hc,hp,hs,qei.symm,fun k hk i hi=>?_⟩
 have hk:k<(pC ps).length:=hk
 have hi:i<(qbw (pC ps) k).length:=hi
 have hg:=qcv (n:=(pC ps).length) hk hi
 have hlt:=(List.getElem?_eq_some_iff.1 hg).1
 have hga:(qaJ (pC ps) (pC ps).length).getD (plc (pC ps) k+i) az=((k:Int),(i:Int),(qbw (pC ps) k).getD i 0,()):=by rw[List.getD_eq_getElem?_getD,hg];rfl
 obtain⟨h1,h2,h3⟩:=ho _ hlt
 rw[hga] at h3
 obtain⟨f,f1,f2,f3⟩:=qis hc.srt hc hk hi
 obtain⟨a,ha,ea,hka,eka⟩:=qeU hs.1 hs.2.1 hk
 obtain⟨b,hb,eb,hfb,efb⟩:=qeU hs.1 hs.2.1 f1
 show Bt ((msN (pC ps) (pP ps) (pS ps) ps (qaJ (pC ps) (pC ps).length).length).getD (plc (pC ps) k+i) mz) (pP ps) ((pS ps).getD ((qbw (pC ps) k).getD i 0).toNat 0) ((pS ps).getD k 0)
 rw[List.getD_eq_getElem?_getD,qlJ hlt,hga]
 simp only[Int.toNat_natCast] at h3
 rw[f3,Int.toNat_natCast,ea,eb] at h3
 show Bt (mA (pP ps) (pS ps) ((k:Int),(i:Int),(qbw (pC ps) k).getD i 0,()) (rdL (ps.getD (3+(plc (pC ps) k+i)) [])).1) _ _ _
 unfold mA
 simp only[Int.toNat_natCast]
 rw[f3,Int.toNat_natCast,ea,eb]
 refine⟨⟨hp,⟨by show(0:Int)≤a;omega,by show(a:Int)≤32;omega⟩,⟨by show(0:Int)≤b;omega,by show(b:Int)≤32;omega⟩,h3,h2⟩,rfl,rfl,rfl⟩
theorem qoF{ps:List Tx}(hl:ps.length=3+(qaJ (pC ps) (pC ps).length).length)(h0:(rdC (ps.getD 0 [])).2=true)(h1:(rdT (ps.getD 1 [])).2=true)(h2:(rdL (ps.getD 2 [])).2=true)(ho:∀ t,t<(qaJ (pC ps) (pC ps).length).length→(rdL (ps.getD (3+t) [])).2=true) :
  qhd (pX ps)=Go.Lib.join ps [59]:=by
 have e0:qbN (pC ps)=ps.getD 0 []:=(qnT h0).2
 have e1:Go.Lib.itoa (pP ps)=ps.getD 1 []:=(qkH h1).1
 have e2:qaF (pS ps)=ps.getD 2 []:=(qiy h2).2
 show Go.Lib.join (qbN (pC ps)::Go.Lib.itoa (pP ps)::qaF (pS ps)::qbv (msN (pC ps) (pP ps) (pS ps) ps (qaJ (pC ps) (pC ps).length).length)) [59]=_
 refine congrArg (fun q=>Go.Lib.join q [59]) ?_
 have hml:(qbv (msN (pC ps) (pP ps) (pS ps) ps (qaJ (pC ps) (pC ps).length).length)).length=(qaJ (pC ps) (pC ps).length).length:=by unfold qbv;rw[List.length_map,qei]
 refine List.ext_getElem (by simp only[List.length_cons];omega) fun i g1 g2=>?_
 have eg:ps[i]=ps.getD i []:=by rw[List.getD_eq_getElem?_getD,List.getElem?_eq_getElem g2];rfl
 rw[eg]
 match i,g1,g2 with
 | 0,_,_=>exact e0
 | 1,_,_=>exact e1
 | 2,_,_=>exact e2
 | t+3,g1,g2 =>
  have ht:t<(qaJ (pC ps) (pC ps).length).length:=by omega
  have hm:=(qiy (ho t ht)).2
  have e3:ps.getD (t+3) []=qaF (rdL (ps.getD (3+t) [])).1:=by rw[Nat.add_comm];exact hm.symm
  rw[e3]
  have e:(qbv (msN (pC ps) (pP ps) (pS ps) ps (qaJ (pC ps) (pC ps).length).length))[t]? = some (qaF (rdL (ps.getD (3+t) [])).1):=by
   unfold qbv
   rw[List.getElem?_map,qlJ ht];rfl
  rw[List.getElem?_eq_getElem (by omega)] at e
  exact Option.some.inj e
theorem qpL{l:Tx}{ps:List Tx}{x:Shf}(h:RS l x)(hf:Fix ps x){t:Nat}(ht:t<(qaJ (pC ps) (pC ps).length).length):OkM ps (pP ps) (pS ps) ((qaJ (pC ps) (pC ps).length).getD t az) t:=by
 have hv:=h.1
 rw[hf.eq] at hv
 obtain⟨k,i,hk,hi,rfl⟩:=qd6 ht
 have hv:VS (pC ps) (pP ps) (pS ps) (msN (pC ps) (pP ps) (pS ps) ps (qaJ (pC ps) (pC ps).length).length):=hv
 obtain⟨_,hb⟩:=hv.map hk hi
 have e:mp (pC ps) (msN (pC ps) (pP ps) (pS ps) ps (qaJ (pC ps) (pC ps).length).length) k i=mA (pP ps) (pS ps) ((qaJ (pC ps) (pC ps).length).getD (plc (pC ps) k+i) az) (rdL (ps.getD (3+(plc (pC ps) k+i)) [])).1:=by
  unfold mp
  rw[List.getD_eq_getElem?_getD,qlJ ht];rfl
 rw[e] at hb
 exact⟨hf.m1 _ ht,hb.1.2.2.2.2,hb.1.2.2.2.1⟩
theorem qkU(l:Tx)(hl:l.length≤1048576):Ret E n_Z130 [dT (tx l)] ⟨o_Z130,qkq l⟩:=by
  refine qan ?_
  simp only[run_Z130,Z130.ev]
  have no:(∀ x,¬ RS l x)→Ev fun φ=>some (⟨o_Z130,(([]:List Sim),(0:Int),([]:Sim),([]:List Mat),false,())⟩:Dv)=some ⟨o_Z130,qkq l⟩:=fun h=>by rw[qk0 h];exact qal
  have hfx:∀ x,RS l x→Fix (spl 59 l) x:=fun x h=>qls h
  have hsl:=qdw (b:=59) (l:=l)
  have hjn:=qiM 59 l
  refine qab (qdx l 59 hl) ?_
  have hwl:3≤(spl 59 l).length→∀ i,i<(spl 59 l).length→((spl 59 l).getD i []).length<1048576:=fun h3 i hi=>qpX hl h3 (qlI hi)
  generalize spl 59 l=ps at hfx hsl hwl hjn
  show Ev fun φ=>(bif decide (((ps.map tx).length:Int)<(3:Int)) then _ else _)=_
  rw[List.length_map]
  by_cases h3:ps.length<3
  · refine qay (decide_eq_true (by omega)) (no fun x hx=>?_)
    have:=(hfx x hx).len
    omega
  have hwl:=hwl (by omega)
  have hv:VC (pC ps):=qmt _
  have hal:=qfZ hv
  have hst:(pS ps).length≤64:=(qdN _).1
  have bad:(∀ x,¬ RS l x)→Ev fun φ=>Z130.j0 (mkR (run E (φ 0))) (φ 0) (ps.map tx) (pP ps) (pS ps) true 0 (pC ps)=some ⟨o_Z130,qkq l⟩:=fun h=>by
    simp only[Z130.j0_eq _ qah]
    exact qay rfl (no h)
  refine qaz (decide_eq_false (by omega)) (qae (qfz (i:=0) (by omega)) (qab (qkO _ (hwl 0 (by omega))) (qae (qfz (i:=1) (by omega)) (qab (qeH _ (by have:=hwl 1 (by omega);omega)) (qae (qfz (i:=2) (by omega)) (qab (qbT _ (hwl 2 (by omega))) ?_))))))
  cases hc1:(rdC (ps.getD 0 [])).2 with
  | false =>
    refine qay rfl (bad fun x hx=>?_)
    have:=(hfx x hx).c1
    rw[hc1] at this
    cases this
  | true =>
  refine qaz rfl ?_
  cases hp1:(rdT (ps.getD 1 [])).2 with
  | false =>
    refine qay rfl (bad fun x hx=>?_)
    have:=(hfx x hx).p1
    rw[hp1] at this
    cases this
  | true =>
  refine qaz rfl ?_
  cases hs1:(rdL (ps.getD 2 [])).2 with
  | false =>
    refine qay rfl (bad fun x hx=>?_)
    have:=(hfx x hx).s1
    rw[hs1] at this
    cases this
  | true =>
  refine qaz rfl (qab (qeO (pP ps)) ?_)
  by_cases hp:Pr (pP ps)
  case neg =>
    refine qay (by show(!pb _)=true;rw[qas hp];rfl) (bad fun x hx=>hp ?_)
    have h1:=hx.1.2.1
    rw[(hfx x hx).eq] at h1
    exact h1
  refine qaz (by show(!pb _)=false;rw[qaB hp];rfl) (qab (qiT (pC ps) (pS ps) hv.sm (by omega)) ?_)
  by_cases hs:SK (pC ps) (pS ps)
  case neg =>
    refine qay (by show(!pb _)=true;rw[qas hs];rfl) (bad fun x hx=>hs ?_)
    have h1:=hx.1.2.2.1
    rw[(hfx x hx).eq] at h1
    exact h1
  refine qaz (by show(!pb _)=false;rw[qaB hs];rfl) (qab (qjQ (pC ps) hv) ?_)
  have hpl:plc (pC ps) (pC ps).length=(qaJ (pC ps) (pC ps).length).length:=rfl
  rw[hpl,qat (by omega) (by omega)]
  by_cases hlen:ps.length=3+(qaJ (pC ps) (pC ps).length).length
  case neg =>
    have e:((ps.length:Int) != 3+(((qaJ (pC ps) (pC ps).length).length:Nat):Int))=true:=by rw[bne_iff_ne];omega
    rw[e]
    exact bad fun x hx=>hlen (hfx x hx).len
  have e:((ps.length:Int) != 3+(((qaJ (pC ps) (pC ps).length).length:Nat):Int))=false:=by rw[bne_eq_false_iff_eq];omega
  rw[e]
  simp only[Z130.j0_eq _ qah]
  refine qaz rfl (qab (qmg (pC ps) (pP ps) (pS ps) hv.sm hv hs.1 hs.2.1) ?_)
  have key:∀(d t:Nat),t+d=(qaJ (pC ps) (pC ps).length).length→(∀ j,j<t→OkM ps (pP ps) (pS ps) ((qaJ (pC ps) (pC ps).length).getD j az) j) →
      Ev fun φ=>Z130.l1 (mkR (run E (φ 0))) (φ 0) (φ 1) (ps.map tx) (pP ps) (t:Int) 0 (pP ps) (msN (pC ps) (pP ps) (pS ps) ps t++((qaJ (pC ps) (pC ps).length).map (zOf (pP ps) (pS ps))).drop t) (pC ps) (pS ps)=some ⟨o_Z130,qkq l⟩:=by
    intro d
    induction d with
    | zero =>
      intro t ht hok
      obtain rfl:t=(qaJ (pC ps) (pC ps).length).length:=by omega
      have eo:msN (pC ps) (pP ps) (pS ps) ps (qaJ (pC ps) (pC ps).length).length++((qaJ (pC ps) (pC ps).length).map (zOf (pP ps) (pS ps))).drop (qaJ (pC ps) (pC ps).length).length=msN (pC ps) (pP ps) (pS ps) ps (qaJ (pC ps) (pC ps).length).length:=by
        rw[List.drop_eq_nil_of_le (by rw[List.length_map];exact Nat.le_refl _),List.append_nil]
      rw[eo]
      refine Ev.round 1 (L:=fun φ q=>Z130.l1 (mkR (run E (φ 0))) (φ 0) q (ps.map tx) (pP ps) ((qaJ (pC ps) (pC ps).length).length:Int) 0 (pP ps) (msN (pC ps) (pP ps) (pS ps) ps (qaJ (pC ps) (pC ps).length).length) (pC ps) (pS ps)) ?_ (fun _ _ _=>rfl)
      simp only[Z130.l1_succ _ qah]
      refine qaz (decide_eq_false (by rw[qei];omega)) ?_
      have hr:RS l (pC ps,pP ps,pS ps,msN (pC ps) (pP ps) (pS ps) ps (qaJ (pC ps) (pC ps).length).length,()):=⟨qpQ hv hp hs hok,(qoF hlen hc1 hp1 hs1 fun j hj=>(hok j hj).1).trans hjn⟩
      rw[qlh hr]
      exact qal
    | succ d ih =>
      intro t ht hok
      have htl:t<(qaJ (pC ps) (pC ps).length).length:=by omega
      obtain⟨k,i,f,hk,hi,hf,ea⟩:=qmq hv.srt hv htl
      obtain⟨a,ha,eka,_,_⟩:=qeU hs.1 hs.2.1 hk
      obtain⟨b,hb,ekb,_,_⟩:=qeU hs.1 hs.2.1 hf
      have hml:=qei (c:=pC ps) (p:=pP ps) (st:=pS ps) (ps:=ps) (n:=t)
      have hzl:((qaJ (pC ps) (pC ps).length).map (zOf (pP ps) (pS ps))).length=(qaJ (pC ps) (pC ps).length).length:=List.length_map _
      have hztl:t<((qaJ (pC ps) (pC ps).length).map (zOf (pP ps) (pS ps))).length:=by omega
      have ez:((qaJ (pC ps) (pC ps).length).map (zOf (pP ps) (pS ps)))[t]=(pP ps,(a:Int),(b:Int),List.replicate (a*b) 0,()):=by
        rw[List.getElem_map,ea]
        unfold zOf
        simp only[Int.toNat_natCast]
        rw[eka,ekb]
        simp only[Int.toNat_natCast]
      have hd:=List.drop_eq_getElem_cons hztl
      rw[ez] at hd
      have hol:(msN (pC ps) (pP ps) (pS ps) ps t++((qaJ (pC ps) (pC ps).length).map (zOf (pP ps) (pS ps))).drop t).length=(qaJ (pC ps) (pC ps).length).length:=by rw[List.length_append,hml,List.length_drop,hzl];omega
      have e4:w64 (3+(t:Int))=((3+t:Nat):Int):=by rw[qat (by omega) (by omega)];omega
      have hget:(msN (pC ps) (pP ps) (pS ps) ps t++((qaJ (pC ps) (pC ps).length).map (zOf (pP ps) (pS ps))).drop t)[Int.toNat (t:Int)]? = some (pP ps,(a:Int),(b:Int),List.replicate (a*b) 0,()):=by
        rw[Int.toNat_natCast,hd,List.getElem?_append_right (by omega),hml,Nat.sub_self];rfl
      refine Ev.round 1 (L:=fun φ q=>Z130.l1 (mkR (run E (φ 0))) (φ 0) q (ps.map tx) (pP ps) (t:Int) 0 (pP ps) (msN (pC ps) (pP ps) (pS ps) ps t++((qaJ (pC ps) (pC ps).length).map (zOf (pP ps) (pS ps))).drop t) (pC ps) (pS ps)) ?_ (fun _ _ _=>rfl)
      simp only[Z130.l1_succ _ qah,Z130.j2_eq _ qah]
      rw[e4]
      refine qay (decide_eq_true (by rw[hol];omega)) (qae (qfz (i:=3+t) (by omega)) (qab (qbT _ (hwl (3+t) (by omega))) ?_))
      have hck:(decide (0≤(t:Int))&&decide ((t:Int)<((msN (pC ps) (pP ps) (pS ps) ps t++((qaJ (pC ps) (pC ps).length).map (zOf (pP ps) (pS ps))).drop t).length:Int)))=true:=by
        rw[hol,decide_eq_true (show(0:Int)≤(t:Int) by omega),decide_eq_true (show(t:Int)<((qaJ (pC ps) (pC ps).length).length:Int) by omega)];rfl
      have hbad:¬ OkM ps (pP ps) (pS ps) ((qaJ (pC ps) (pC ps).length).getD t az) t→∀ x,¬ RS l x:=fun h x hx=>h (qpL hx (hfx x hx) htl)
      have hok1:OkM ps (pP ps) (pS ps) ((qaJ (pC ps) (pC ps).length).getD t az) t↔((rdL (ps.getD (3+t) [])).2=true∧(qgo (rdL (ps.getD (3+t) [])).1 (pP ps)∧((rdL (ps.getD (3+t) [])).1.length:Int)=((a*b:Nat):Int))):=by
        unfold OkM
        rw[qao htl,ea]
        simp only[Int.toNat_natCast]
        rw[eka,ekb,qf1]
      cases hb1:(rdL (ps.getD (3+t) [])).2 with
      | false =>
        exact qay rfl (qay rfl (no (hbad fun h=>by rw[h.1] at hb1;cases hb1)))
      | true =>
      refine qaz rfl (qaw hck (qae hget (qab (qex (rdL (ps.getD (3+t) [])).1 ((List.replicate (a*b) (0:Int)).length:Int) (pP ps) (by have:=(qdN (ps.getD (3+t) [])).1;omega) ⟨by have:=hp.1;omega,by have:=hp.2.1;omega⟩) ?_)))
      rw[List.length_replicate]
      by_cases hcol:qgo (rdL (ps.getD (3+t) [])).1 (pP ps)∧((rdL (ps.getD (3+t) [])).1.length:Int)=((a*b:Nat):Int)
      case neg =>
        exact qay (by show(!pb _)=true;rw[qas hcol];rfl) (no (hbad fun h=>hcol (hok1.1 h).2))
      refine qaz (by show(!pb _)=false;rw[qaB hcol];rfl) (qaw hck (qae hget ?_))
      have eset:List.set (msN (pC ps) (pP ps) (pS ps) ps t++((qaJ (pC ps) (pC ps).length).map (zOf (pP ps) (pS ps))).drop t) (Int.toNat (t:Int)) (pP ps,(a:Int),(b:Int),(rdL (ps.getD (3+t) [])).1,())=msN (pC ps) (pP ps) (pS ps) ps (t+1)++((qaJ (pC ps) (pC ps).length).map (zOf (pP ps) (pS ps))).drop (t+1):=by
        rw[Int.toNat_natCast,hd,List.set_append_right _ _ (by omega),hml,Nat.sub_self,List.set_cons_zero,qlG,qao htl,ea]
        unfold mA
        simp only[Int.toNat_natCast]
        rw[eka,ekb,List.append_assoc];rfl
      have h2:=ih (t+1) (by omega) fun j hj=>by
        by_cases e:j=t
        · subst e;exact hok1.2 ⟨hb1,hcol⟩
        · exact hok j (by omega)
      rw[← eset] at h2
      rw[qai (by omega)]
      exact h2
  have h1:=key (qaJ (pC ps) (pC ps).length).length 0 (by omega) fun j hj=>by omega
  rw[List.drop_zero] at h1
  exact Ev.start (p:=fun φ n=>Z130.l1 (mkR (run E (φ 0))) (φ 0) n (ps.map tx) (pP ps) 0 0 (pP ps) ((qaJ (pC ps) (pC ps).length).map (zOf (pP ps) (pS ps))) (pC ps) (pS ps)=_) 1 h1 (fun _ _ _ h=>h)
theorem qfe(l:Tx)(hl:l.length≤1048576):Ret E n_Z98 [dT (tx l)] ⟨o_Z98,qkq l⟩:=by
 refine qan ?_
 simp only[run_Z98,Z98.ev]
 exact qab (qkU l hl) qal
end VeT
open Go Go.Proofs Ve
namespace VeT
theorem qoT(l:Tx)(hl:l.length≤1048576):Sm (.st cS) ((qkq l).1,(qkq l).2.1,(qkq l).2.2.1,(qkq l).2.2.2.1,()):=by
 by_cases h:∃ x,RS l x
 ·obtain⟨x,hx⟩:=h
  have hf:=qls hx
  have e:=hf.eq
  subst e
  rw[qlh (c:=pC (spl 59 l)) (p:=pP (spl 59 l)) (st:=pS (spl 59 l)) hx]
  have hv:VC (pC (spl 59 l)):=qmt _
  have h1:=qfZ hv
  have h2:=(qdN ((spl 59 l).getD 2 [])).1
  exact⟨hv.sm,trivial,⟨by show(pS (spl 59 l)).length≤1048576;unfold pS;omega,fun _ _=>trivial⟩,qos (by omega),trivial⟩
 ·rw[qk0 fun x hx=>h ⟨x,hx⟩]
  exact⟨⟨by show(0:Nat)≤1048576;omega,fun _ h=>by cases h⟩,trivial,⟨by show(0:Nat)≤1048576;omega,fun _ h=>by cases h⟩,⟨by show(0:Nat)≤1048576;omega,fun _ h=>by cases h⟩,trivial⟩
theorem qiE(x0:ByteArray):Ret E n_Z50 [dT x0] ⟨.cons .bool .nil,(true,())⟩:=by
 refine qan ?_
 simp only[run_Z50,Z50.ev]
 by_cases n0:(1048576:Int)<(x0.size:Int)
 ·exact qay (decide_eq_true n0) qal
 refine qaz (decide_eq_false n0) ?_
 have hl:x0.data.toList.length≤1048576:=by
  have:x0.size=x0.data.toList.length:=by show x0.data.size=_;simp
  omega
 have hi:=qeZ x0.data.toList hl
 have hsp:=qfe x0.data.toList hl
 have hsm:=qoT x0.data.toList hl
 rw[qmR] at hi hsp
 generalize qkq x0.data.toList=V at hi hsp hsm
 obtain⟨v0_0,v0_1,v0_2,v0_3,v1,⟨⟩⟩:=V
 have z0:Sm (.st cS) (v0_0,v0_1,v0_2,v0_3,()):=hsm
 obtain⟨qr0,hqr0,eqr0⟩:=qky (v0_0,v0_1,v0_2,v0_3,()) (v0_0,v0_1,v0_2,v0_3,()) z0
 obtain rfl:qr0=true:=eqr0.2 rfl
 have mr0:=qhz (v0_0,v0_1,v0_2,v0_3,()) z0
 have hl0:=qiv (v0_0,v0_1,v0_2,v0_3,()) z0
 have hb0:=qow (v0_0,v0_1,v0_2,v0_3,()) z0
 have he0:¬ (qpy (v0_0,v0_1,v0_2,v0_3,()) 1<0):=by omega
 repeat (first | with_reducible exact qal | with_reducible refine qab hqr0 ?_ | with_reducible refine qab hi ?_ | with_reducible refine qab hsp ?_ | with_reducible refine qab mr0 ?_ | with_reducible refine qab hl0 ?_ | with_reducible refine qaz (by first | rfl | exact bne_self_eq_false _ | exact decide_eq_false he0 | (simp;done)) ?_ | simp only[bne_self_eq_false,Z50.j0_eq _ qah,Z50.j1_eq _ qah,cond_false])
theorem qov(z:((.cons .str .nil):Ty).T)(h:Wf (.cons .str .nil) z) :
  Evt fun n=>run E n n_Z50 (qa3 _ z)=some ⟨.cons .bool .nil,(true,())⟩ :=
 qiE z.1
end VeT
