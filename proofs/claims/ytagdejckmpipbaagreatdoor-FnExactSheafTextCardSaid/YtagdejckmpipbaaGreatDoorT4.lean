import Derived.Test.YtagdejckmpipbaaGreatDoorT3
import Derived.Shelf.Strings.OnBuilder
import Derived.Shelf.Strconv.Itoa4
import Derived.Ground.NamesProg
import Derived.Test.YtagdejckmpipbaaGreatDoorV2
import Derived.Lib.LaidTab
import Derived.Test.YtagdejckmpipbaaGreatDoorProg
import Derived.KernelRfl
import Derived.WalkKit
import Derived.Lib.Walk
import Derived.Lib.SliceRun
import Derived.Lib.AppendZerosOnto
import Derived.Lib.ItoaLen
set_option linter.unusedVariables false
set_option linter.unusedSimpArgs false
namespace Go.Proofs
open Go.Shelf
def Tryz.joinl40_ren:Go.Shelf.Ren:=⟨fun | 156=>40 | 165=>101 | 166=>102 | 169=>103 | 240=>162 | 241=>163 | 276=>211 | 277=>212 | n=>n,fun | 31=>73 | 9=>9 | 3=>3 | 4=>4 | 0=>0 | 20=>20 | 72=>133 | 76=>137 | 70=>131 | 37=>42 | 75=>136 | 127=>178 | 164=>208 | 5=>5 | 80=>139 | n=>n,fun | n=>n⟩
theorem Tryz.joinl40:Go.Proofs.Lays.n156 Tryz.prog Tryz.joinl40_ren:={
 mixed:=by kernel_rfl
 f156:=Tryz.func40.trans (congrArg some (by kernel_rfl))
 f165:=Tryz.func101.trans (congrArg some (by kernel_rfl))
 f166:=Tryz.func102.trans (congrArg some (by kernel_rfl))
 f169:=Tryz.func103.trans (congrArg some (by kernel_rfl))
 f240:=Tryz.func162.trans (congrArg some (by kernel_rfl))
 f241:=Tryz.func163.trans (congrArg some (by kernel_rfl))
 f276:=Tryz.func211.trans (congrArg some (by kernel_rfl))
 f277:=Tryz.func212.trans (congrArg some (by kernel_rfl))
 t0:=Tryz.underlying0
 a0:=Tryz.isAgg0
 z0:=Tryz.sizeOf0
 v0:=Tryz.zeroValue0
 t3:=Tryz.underlying3
 a3:=Tryz.isAgg3
 z3:=Tryz.sizeOf3
 v3:=Tryz.zeroValue3
 t4:=Tryz.underlying4
 a4:=Tryz.isAgg4
 z4:=Tryz.sizeOf4
 v4:=Tryz.zeroValue4
 t9:=Tryz.underlying9
 a9:=Tryz.isAgg9
 z9:=Tryz.sizeOf9
 v9:=Tryz.zeroValue9
 t20:=Tryz.underlying20
 a20:=Tryz.isAgg20
 z20:=Tryz.sizeOf20
 v20:=Tryz.zeroValue20
 t31:=Tryz.underlying73
 a31:=Tryz.isAgg73
 z31:=Tryz.sizeOf73
 v31:=Tryz.zeroValue73
 t37:=Tryz.underlying42
 a37:=Tryz.isAgg42
 z37:=Tryz.sizeOf42
 v37:=Tryz.zeroValue42
 t70:=Tryz.underlying131
 a70:=Tryz.isAgg131
 z70:=Tryz.sizeOf131
 v70:=Tryz.zeroValue131
 t72:=Tryz.underlying133
 a72:=Tryz.isAgg133
 z72:=Tryz.sizeOf133
 v72:=Tryz.zeroValue133
 t75:=Tryz.underlying136
 a75:=Tryz.isAgg136
 z75:=Tryz.sizeOf136
 v75:=Tryz.zeroValue136
 t76:=Tryz.underlying137
 a76:=Tryz.isAgg137
 z76:=Tryz.sizeOf137
 v76:=Tryz.zeroValue137
 t127:=Tryz.underlying178
 a127:=Tryz.isAgg178
 z127:=Tryz.sizeOf178
 v127:=Tryz.zeroValue178
 t164:=Tryz.underlying208
 a164:=Tryz.isAgg208
 z164:=Tryz.sizeOf208
 v164:=Tryz.zeroValue208 }
def Tryz.fmtl97_ren:Go.Shelf.Ren:=⟨fun | 173=>97 | 246=>161 | 283=>207 | 284=>208 | 285=>209 | 286=>210 | 129=>236 | 317=>235 | 318=>237 | 319=>238 | 320=>239 | 337=>264 | 338=>265 | n=>n,fun | 2=>2 | 3=>3 | 9=>9 | 4=>4 | 171=>203 | 0=>0 | 53=>151 | 37=>42 | 5=>5 | 173=>206 | 212=>235 | 51=>236 | 20=>20 | 213=>237 | 46=>219 | 232=>266 | 233=>267 | n=>n,fun | 17=>0 | 18=>6 | 19=>7 | n=>n⟩
theorem Tryz.fmtl97:Go.Proofs.LaysM.n173 Tryz.prog Tryz.fmtl97_ren:={
 mixed:=by kernel_rfl
 f129:=Tryz.func236.trans (congrArg some (by kernel_rfl))
 f173:=Tryz.func97.trans (congrArg some (by kernel_rfl))
 f246:=Tryz.func161.trans (congrArg some (by kernel_rfl))
 f283:=Tryz.func207.trans (congrArg some (by kernel_rfl))
 f284:=Tryz.func208.trans (congrArg some (by kernel_rfl))
 f285:=Tryz.func209.trans (congrArg some (by kernel_rfl))
 f286:=Tryz.func210.trans (congrArg some (by kernel_rfl))
 f317:=Tryz.func235.trans (congrArg some (by kernel_rfl))
 f318:=Tryz.func237.trans (congrArg some (by kernel_rfl))
 f319:=Tryz.func238.trans (congrArg some (by kernel_rfl))
 f320:=Tryz.func239.trans (congrArg some (by kernel_rfl))
 f337:=Tryz.func264.trans (congrArg some (by kernel_rfl))
 f338:=Tryz.func265.trans (congrArg some (by kernel_rfl))
 t0:=Tryz.underlying0
 a0:=Tryz.isAgg0
 z0:=Tryz.sizeOf0
 v0:=Tryz.zeroValue0
 t2:=Tryz.underlying2
 a2:=Tryz.isAgg2
 z2:=Tryz.sizeOf2
 v2:=Tryz.zeroValue2
 t3:=Tryz.underlying3
 a3:=Tryz.isAgg3
 z3:=Tryz.sizeOf3
 v3:=Tryz.zeroValue3
 t4:=Tryz.underlying4
 a4:=Tryz.isAgg4
 z4:=Tryz.sizeOf4
 v4:=Tryz.zeroValue4
 t5:=Tryz.underlying5
 a5:=Tryz.isAgg5
 z5:=Tryz.sizeOf5
 v5:=Tryz.zeroValue5
 t9:=Tryz.underlying9
 a9:=Tryz.isAgg9
 z9:=Tryz.sizeOf9
 v9:=Tryz.zeroValue9
 t20:=Tryz.underlying20
 a20:=Tryz.isAgg20
 z20:=Tryz.sizeOf20
 v20:=Tryz.zeroValue20
 t37:=Tryz.underlying42
 a37:=Tryz.isAgg42
 z37:=Tryz.sizeOf42
 v37:=Tryz.zeroValue42
 t46:=Tryz.underlying219
 a46:=Tryz.isAgg219
 z46:=Tryz.sizeOf219
 v46:=Tryz.zeroValue219
 t51:=Tryz.underlying236
 a51:=Tryz.isAgg236
 z51:=Tryz.sizeOf236
 v51:=Tryz.zeroValue236
 t53:=Tryz.underlying151
 a53:=Tryz.isAgg151
 z53:=Tryz.sizeOf151
 v53:=Tryz.zeroValue151
 t171:=Tryz.underlying203
 a171:=Tryz.isAgg203
 z171:=Tryz.sizeOf203
 v171:=Tryz.zeroValue203
 t173:=Tryz.underlying206
 a173:=Tryz.isAgg206
 z173:=Tryz.sizeOf206
 v173:=Tryz.zeroValue206
 t212:=Tryz.underlying235
 a212:=Tryz.isAgg235
 z212:=Tryz.sizeOf235
 v212:=Tryz.zeroValue235
 t213:=Tryz.underlying237
 a213:=Tryz.isAgg237
 z213:=Tryz.sizeOf237
 t232:=Tryz.underlying266
 a232:=Tryz.isAgg266
 z232:=Tryz.sizeOf266
 v232:=Tryz.zeroValue266
 t233:=Tryz.underlying267
 a233:=Tryz.isAgg267
 z233:=Tryz.sizeOf267
 v233:=Tryz.zeroValue267
 g17:=by kernel_rfl
 g18:=by kernel_rfl
 g19:=by kernel_rfl
 i0:=by kernel_rfl
 i2:=by kernel_rfl
 i3:=by kernel_rfl
 i4:=by kernel_rfl
 i5:=by kernel_rfl
 i9:=by kernel_rfl
 i20:=by kernel_rfl
 i37:=by kernel_rfl
 i46:=by kernel_rfl
 i51:=by kernel_rfl
 i53:=by kernel_rfl
 i171:=by kernel_rfl
 i173:=by kernel_rfl
 i212:=by kernel_rfl
 i232:=by kernel_rfl
 i233:=by kernel_rfl
 m17:=by kernel_rfl
 m18:=by kernel_rfl
 m19:=by kernel_rfl }
end Go.Proofs
namespace VeT
section
open Go Go.Proofs Go.RowKit Go.Lib
open Ve in
theorem qj9 {w : World} {S : qaa} (h : Gl E.gs w S) : Lib.TabIs Tryz.prog w "internal/strconv.uint64pow10" .u64 Lib.pow10Tab := by
 obtain⟨_,cs,e,fz,h1,h2⟩:=h _ (.head _)
 have h2:cs=_:=h2
 subst h2
 unfold Lib.TabIs World.var?
 rw [show Tryz.prog.globalNamed "internal/strconv.uint64pow10" = some (gv "internal/strconv.uint64pow10") by kernel_rfl]
 simp only[Option.bind_some]
 rw[h1]
theorem qev:Builder.Extra Tryz.prog Tryz.joinl40_ren:={
 sizeBuilder:=by kernel_rfl
 liesBuilder:=by kernel_rfl
 t5:=Tryz.fmtl97.t5
 a5:=Tryz.fmtl97.a5
 z5:=Tryz.fmtl97.z5
 v5:=Tryz.fmtl97.v5
 infoByte:=by kernel_rfl
 cellsByte:=by kernel_rfl
 sizeByte:=by kernel_rfl
 neB5:=by decide }
open Ve in
theorem qfF{R:Run}{args:List Dv}{dv:Dv}(h:qjl R args=some dv):qbb E.gs Tryz.prog ⟨[(false,1),(false,1)],[],.cons .str .nil,[(false,1)],[],[.str]⟩ 40 args dv :=
 Ve.qha (fun a c sep w=>Any.strings_Join_none Tryz.joinl40 qev a c sep w)
  (fun bk o c xs sep w h1 h2 h3 h4 h5=>Any.strings_Join Tryz.joinl40 qev bk o c xs sep w h1 h2 h3 h4 h5) h
open Ve in
theorem qfO{R:Run}{args:List Dv}{dv:Dv}(h:qlj R args=some dv):qbb E.gs Tryz.prog ⟨[(false,1),(false,1)],[],.cons .str .nil,[(false,1)],[],[]⟩ 97 args dv :=
 Ve.qhg (Tab := fun w => Lib.TabIs Tryz.prog w "internal/strconv.uint64pow10" .u64 Lib.pow10Tab) (fun w S h => qj9 h)
  (fun n w h1 h2 ht=>(Any.strconv_FormatInt_10 Tryz.fmtl97 n h1 h2 w ht).mono fun e w' ⟨he,k,os,hw⟩=>by
   subst hw
   refine⟨he,⟨rfl,rfl,rfl,Nat.le_add_right _ _⟩,?_,fun b hb=>?_⟩
   ·show w.heap.size≤(w.heap++os).size
    simp
   ·show(w.heap++os)[b]? = _
    rw[Array.getElem?_append_left hb]) h
set_option maxHeartbeats 2000000 in
set_option maxRecDepth 100000 in
theorem qhI(base:Option Addr)(l c n:Nat)(w:World)(hlc:l≤c)(hc63:c≤9223372036854775807)(hn63:n≤9223372036854775807)(hroom:l+n≤c) :
  Calls Tryz.prog 230 #[.slice base l c,.int .i64 n] w fun e w'=>e=.returned (.slice base l c)∧w'=w:=by
 have h1:¬ ((n:Int)<0):=by omega
 have h2:wrap64 ((c:Int)-(l:Int))=(c:Int)-(l:Int):=by unfold wrap64;omega
 have h3:wrap64 ((n:Int)-((c:Int)-(l:Int)))=(n:Int)-((c:Int)-(l:Int)):=by unfold wrap64;omega
 have h4:¬ ((n:Int)-((c:Int)-(l:Int))>0):=by omega
 go_enter Tryz.func230,Tryz.ntmps230
 go_wp2
 go_ret
 exact⟨rfl,rfl⟩
set_option maxHeartbeats 4000000 in
set_option maxRecDepth 100000 in
theorem qhB(i0:TypeInfo)(z:Value)(hi0:Tryz.prog.info? 2=some i0)(hz0:i0.zero=some z)(hs0:0<i0.size)
    (base:Option Addr) (l c n:Nat) (cs:List Value) (w:World) (hlc:l≤c) (hroom:c<l+n) (hbig:(l+n)*i0.bytes≤140737488355328) (h63:l+n≤4611686018427387904)
    (hcl:cs.length=c*i0.size) (hnil:base=none→c=0) (hcs:∀ a,base=some a→∀(j:Nat) v,cs[j]? = some v→w.cell? (a.add j)=some v) :
    Calls Tryz.prog 230 #[.slice base l c,.int .i64 n] w fun e w' =>
      e=.returned (.slice (some ⟨w.heap.size,0,none⟩) l (grownCap w (l+n) c 2)) ∧
      w'=w.drew.alloc (.cells (cs.toArray++Builtin.zeroCells z.cells (l+n-c)++Builtin.zeroCells z.cells (grownCap w (l+n) c 2-(l+n))) 2):=by
  have h1:¬ ((n:Int)<0):=by omega
  have h2:wrap64 ((c:Int)-(l:Int))=(c:Int)-(l:Int):=by unfold wrap64;omega
  have h3:wrap64 ((n:Int)-((c:Int)-(l:Int)))=(n:Int)-((c:Int)-(l:Int)):=by unfold wrap64;omega
  have h4:(n:Int)-((c:Int)-(l:Int))>0:=by omega
  have z25:∀ w,(Go.sizeOf 2).run Tryz.prog w=.ok i0.size w:=fun w=>by simp[Go.sizeOf,typeInfo,hi0]
  have hck:c+(l+n-c)=l+n:=by omega
  have hold:(Builtin.firstCells i0.size c (.slice base c c)).run Tryz.prog w.drew=.ok cs.toArray w.drew:=by
    cases base with
    | none =>
      have h0:=hnil rfl
      subst h0
      have hc0:cs=[]:=List.length_eq_zero_iff.1 (by simpa using hcl)
      rw[hc0]
      exact run_firstCells_none w.drew i0.size 0 0 0
    | some a=>exact run_firstCells_some w.drew i0.size c a c c cs hcl (fun j v hj=>hcs a rfl j v hj)
  have hrz:∀ ty,(Builtin.append_ #[25,3] ty #[.slice base c c,.int .i64 ((n:Int)-((c:Int)-(l:Int)))]).run Tryz.prog w =
      .ok (.slice (some ⟨w.heap.size,0,none⟩) (l+n) (grownCap w (l+n) c 2)) (w.drew.alloc (.cells (cs.toArray++Builtin.zeroCells z.cells (l+n-c)++Builtin.zeroCells z.cells (grownCap w (l+n) c 2-(l+n))) 2)):=fun ty=>by
    have h:=Lib.run_append_grow_zeros w 25 3 ty 2 i0 z .i64 .i64 Tryz.underlying25 Tryz.underlying3 hi0 hz0 base c c cs hold (l+n-c) (by omega) hs0 (by omega) (by omega)
      (by have:(l+n-c)*i0.bytes≤(l+n)*i0.bytes:=Nat.mul_le_mul_right _ (by omega)
          omega)
      (by rw[hck];exact growslice_fits hroom hbig)
    rw[hck] at h
    rw[show(n:Int)-((c:Int)-(l:Int))=((l+n-c:Nat):Int) by omega]
    exact h
  have hGn:l+n≤grownCap w (l+n) c 2:=grownCap_ge w _ _ _
  obtain⟨G,hG⟩:∃ G,G=grownCap w (l+n) c 2:=⟨_,rfl⟩
  rw[← hG] at hrz hGn ⊢
  have hG63:G≤9223372036854775807:=by
    have:=grownCap_le_maxLen w (l+n) c 2 (by unfold maxLen;omega)
    rw[← hG] at this
    unfold maxLen at this
    omega
  clear hold hck hG hcs hcl
  go_enter Tryz.func230,Tryz.ntmps230
  cases base with
  | none =>
    have h0:=hnil rfl
    subst h0
    obtain rfl:l=0:=by omega
    go_wp2_with (at_builtin;refine Lib.wpList_append_run _ rfl _ _ _ _ rfl _ _ rfl rfl _ _ (hrz _) ?_)
    all_goals (go_ret;exact⟨rfl,rfl⟩)
  | some a =>
    obtain⟨ab,ao,asp⟩:=a
    go_wp2_with (at_builtin;refine Lib.wpList_append_run _ rfl _ _ _ _ rfl _ _ rfl rfl _ _ (hrz _) ?_)
    all_goals (go_ret;exact⟨rfl,rfl⟩)
theorem qhZ:(Tryz.prog.info? 2).any (fun i=>i.size==Ve.Ty.size yI&&i.zero.any (fun z=>z.cells.size==Ve.Ty.size yI)&&decide (i.bytes≤64*Ve.Ty.size yI)&&decide (0<i.bytes)&&decide (0<Ve.Ty.size yI))=true:=by kernel_rfl
open Ve in
theorem qeF(R:Run){args:List Dv}{dv:Dv}(h:qi5 yI R args=some dv) :
  qbb E.gs Tryz.prog ⟨[(false,1),(false,1)],[.take true,.imm],.cons yL .nil,[(false,1)],[.deep],[]⟩ 230 args dv:=by
 have hi:=qhZ
 cases hi0:Tryz.prog.info? 2 with
 | none=>rw[hi0] at hi;cases hi
 | some i0 =>
  rw[hi0] at hi
  simp only[Option.any_some,Bool.and_eq_true,decide_eq_true_eq,beq_iff_eq] at hi
  obtain⟨⟨⟨⟨h1,h2⟩,h3⟩,h4⟩,h5⟩:=hi
  cases hz:i0.zero with
  | none=>rw[hz] at h2;cases h2
  | some z =>
   rw[hz] at h2
   exact qgX h1 (by simpa using h2) h5 h3 h4 qhI (fun base l c n cs w a1 a2 a3 a4 a5 a6 a7=>qhB i0 z hi0 hz (by rw[h1];exact h5) base l c n cs w a1 a2 a3 a4 a5 a6 a7) R h
end
section
open Go Ve
theorem qkw:primL=(List.range 305).map fun i=>bif Nat.beq i 40 then some qjl else bif Nat.beq i 97 then some qlj else bif Nat.beq i 230 then some (qi5 yI) else none:=by kernel_rfl
theorem qlv:∀ f p,E.prim f=some p→∀ r,qfh E (mkR r)→∀ args dv sg,E.sig f=some sg→p (mkR r) args=some dv→qbb E.gs E.P sg f args dv:=by
 intro f p hp r hr args dv sg hsg h
 have hp:primL.getD f none=some p:=hp
 rw[qkw,List.getD_eq_getElem?_getD,List.getElem?_map] at hp
 by_cases hf:f<305
 ·rw[List.getElem?_range hf] at hp
  simp only[Option.map_some,Option.getD_some] at hp
  by_cases h40:f=40
  ·subst h40
   obtain rfl:qjl=p:=Option.some.inj hp
   obtain rfl:sg_Z114=sg:=Option.some.inj (sig_strings_Join_eq.symm.trans hsg)
   exact qfF h
  rw[show Nat.beq f 40=false from Bool.eq_false_iff.2 fun h=>h40 (Nat.eq_of_beq_eq_true h),cond_false] at hp
  by_cases h97:f=97
  ·subst h97
   obtain rfl:qlj=p:=Option.some.inj hp
   obtain rfl:sg_Z113=sg:=Option.some.inj (sig_strconv_FormatInt_eq.symm.trans hsg)
   exact qfO h
  rw[show Nat.beq f 97=false from Bool.eq_false_iff.2 fun h=>h97 (Nat.eq_of_beq_eq_true h),cond_false] at hp
  by_cases h230:f=230
  ·subst h230
   obtain rfl:(qi5 yI)=p:=Option.some.inj hp
   obtain rfl:sg_Z73=sg:=Option.some.inj (sig_slices_Grow_Sint64_int64_eq.symm.trans hsg)
   exact qeF _ h
  rw[show Nat.beq f 230=false from Bool.eq_false_iff.2 fun h=>h230 (Nat.eq_of_beq_eq_true h),cond_false] at hp
  cases hp
 ·rw[List.getElem?_eq_none (by simpa using hf)] at hp
  cases hp
end
end VeT
open Go Go.Proofs Ve
namespace VeT
theorem qcN(x:(List Int))(l:Int)(hx:Wf yL x)(h0:0≤l)(h1:l≤1048576) :
  ∃ r:Int,Ret E n_Z49 [⟨yL,x⟩,⟨.int .i64,l⟩] ⟨o_Z49,(r,())⟩∧(0≤r→r≤l∧Sm yL x):=by
 have hx1:x.length≤maxLen:=hx.1
 rw[qfq] at hx1
 have hw:w64 (l-x.length)=l-x.length:=qaq (by omega) (by omega)
 by_cases hc:l-(x.length:Int)<0
 ·refine⟨-1,Evt.succ (Evt.of fun n=>?_),fun h=>by omega⟩
  rw[run_Z49,Z49.ev,hw,decide_eq_true hc];rfl
 ·refine⟨l-x.length,Evt.succ (Evt.of fun n=>?_),fun h=>⟨by omega,by omega,fun x _=>trivial⟩⟩
  rw[run_Z49,Z49.ev,hw,decide_eq_false hc];rfl
theorem qcH(x:(List Int))(hx:Sm yL x):Ret E n_Z55 [⟨yL,x⟩] ⟨o_Z55,(x,())⟩:=by
  have hx1:x.length≤1048576:=hx.1
  have hl:=qe9 (a:=x) (L:=fun m n i o=>Z55.l0 (mkR (run E m)) m n x i o) (z:=List.replicate (Int.toNat (List.length x:Int)) (0:Int)) (r:=some ⟨o_Z55,(x,())⟩) (by simp) (fun k o hk ho=>by
      refine Evt.of fun m n=>?_
      show Z55.l0 _ _ _ _ _ _=_
      rw[Z55.l0_succ _ qag,decide_eq_true (show(k:Int)<x.length by omega),cond_true,qah hk]
      simp only[Option.bind_some]
      rw[qc8 (by simp;omega),qai (by omega),Int.toNat_natCast]) (Evt.of fun m n=>by
      show Z55.l0 _ _ _ _ _ _=_
      rw[Z55.l0_succ _ qag,decide_eq_false (by omega),cond_false])
  refine Evt.succ (hl.mono fun n h=>?_)
  rw[run_Z55,Z55.ev,qc8 (by simp;omega)]
  exact h
theorem qb2(x y:(List Int))(hx:Sm yL x):∃ b:Bool,Ret E n_Z43 [⟨yL,x⟩,⟨yL,y⟩] ⟨o_Z43,(b,())⟩∧(b=true↔x=y):=by
 have hx1:x.length≤1048576:=hx.1
 by_cases hl:x.length=y.length
 ·have hd:((x.length:Int) != (y.length:Int))=false:=by simp[hl]
  obtain⟨h1,h2⟩:=qeU (a:=x) (b:=y) (L:=fun m n i (_:Unit)=>Z43.l0 (mkR (run E m)) m n x y i) (fun u v=>u=v) (rt:=some ⟨o_Z43,(true,())⟩) (rf:=some ⟨o_Z43,(false,())⟩) hl.symm
   (fun k h h' hne=>Evt.of fun m n=>by
   show Z43.l0 _ _ _ _ _ _=_
   rw[Z43.l0_succ _ qag,decide_eq_true (show(k:Int)<x.length by omega),cond_true,qah h,qah h']
   have:(x[k] != y[k])=true:=by simpa using hne
   simp only[Option.bind_some,this,cond_true])
   (fun k h h' he=>Evt.of fun m n=>by
   show Z43.l0 _ _ _ _ _ _=_
   rw[Z43.l0_succ _ qag,decide_eq_true (show(k:Int)<x.length by omega),cond_true,qah h,qah h']
   have:(x[k] != y[k])=false:=by simpa using he
   simp only[Option.bind_some,this,cond_false]
   rw[qai (by omega)])
   (Evt.of fun m n=>by
   show Z43.l0 _ _ _ _ _ _=_
   rw[Z43.l0_succ _ qag,decide_eq_false (by omega),cond_false])
  by_cases he:x=y
  ·refine⟨true,Evt.succ ((h1 (by subst he;intros;rfl)).mono fun n h=>?_),by simp[he]⟩
   rw[run_Z43,Z43.ev,hd,cond_false]
   exact h
  ·refine⟨false,Evt.succ ((h2 fun hh=>he (List.ext_getElem hl hh)).mono fun n h=>?_),by simp[he]⟩
   rw[run_Z43,Z43.ev,hd,cond_false]
   exact h
 ·have hd:((x.length:Int) != (y.length:Int))=true:=by simp;omega
  refine⟨false,Evt.succ (Evt.of fun n=>?_),⟨fun h=>(nomatch h),fun h=>absurd (congrArg List.length h) hl⟩⟩
  rw[run_Z43,Z43.ev,hd,cond_true]
theorem qgG(x:vK)(l:Int)(hx:Wf yK x)(h0:0≤l)(h1:l≤1048576) :
    ∃ r:Int,Ret E n_Z50 [⟨yK,x⟩,⟨.int .i64,l⟩] ⟨o_Z50,(r,())⟩∧(0≤r→r≤l∧Sm yK x):=by
  have hx1:x.length≤maxLen:=hx.1
  rw[qfq] at hx1
  have hw:w64 (l-x.length)=l-x.length:=qaq (by omega) (by omega)
  by_cases hc:l-(x.length:Int)<0
  · refine⟨-1,Evt.succ (Evt.of fun n=>?_),fun h=>by omega⟩
    rw[run_Z50,Z50.ev,hw,decide_eq_true hc];rfl
  · obtain⟨r,hr,hs⟩:=qjx (xs:=x) (L:=fun m n i left=>Z50.l0 (mkR (run E m)) m n x left i) (ret:=fun r=>some ⟨o_Z50,(r,())⟩) (fun x=>Sm yL x) (fun k left hk hl0 hl1=>by
      obtain⟨r,hr,hs⟩:=qcN x[k] left (hx.2 _ (List.getElem_mem hk)) hl0 hl1
      refine⟨r,hs,hr.mono fun m h n=>?_⟩
      show Z50.l0 _ _ _ _ _ _=_
      rw[Z50.l0_succ _ qag,decide_eq_true (show(k:Int)<x.length by omega),cond_true,qah hk]
      simp only[Option.bind_some,qat h]
      rw[qai (by omega)]) (fun left=>Evt.of fun m n=>by
      show Z50.l0 _ _ _ _ _ _=_
      rw[Z50.l0_succ _ qag,decide_eq_false (by omega),cond_false]) (l-x.length) (by omega) (by omega)
    refine⟨r,Evt.succ (hr.mono fun n h=>?_),fun h=>⟨by have:=(hs h).1;omega,by omega,(hs h).2⟩⟩
    rw[run_Z50,Z50.ev,hw,decide_eq_false hc]
    exact h
theorem qgH(x:vK)(hx:Sm yK x):Ret E n_Z56 [⟨yK,x⟩] ⟨o_Z56,(x,())⟩:=by
  have hx1:x.length≤1048576:=hx.1
  have hl:=qe9 (a:=x) (L:=fun m n i o=>Z56.l0 (mkR (run E m)) m n x i o) (z:=List.replicate (Int.toNat (List.length x:Int)) ([]:List Int)) (r:=some ⟨o_Z56,(x,())⟩) (by simp) (fun k o hk ho=>by
      have hr:=qcH x[k] (hx.2 _ (List.getElem_mem hk))
      refine hr.mono fun m h n=>?_
      show Z56.l0 _ _ _ _ _ _=_
      rw[Z56.l0_succ _ qag,decide_eq_true (show(k:Int)<x.length by omega),cond_true,qah hk]
      simp only[Option.bind_some,qat h]
      rw[qc8 (by simp;omega),qai (by omega),Int.toNat_natCast]) (Evt.of fun m n=>by
      show Z56.l0 _ _ _ _ _ _=_
      rw[Z56.l0_succ _ qag,decide_eq_false (by omega),cond_false])
  refine Evt.succ (hl.mono fun n h=>?_)
  rw[run_Z56,Z56.ev,qc8 (by simp;omega)]
  exact h
theorem qgZ(x y:vK)(hx:Sm yK x):∃ b:Bool,Ret E n_Z44 [⟨yK,x⟩,⟨yK,y⟩] ⟨o_Z44,(b,())⟩∧(b=true↔x=y):=by
 have hx1:x.length≤1048576:=hx.1
 by_cases hl:x.length=y.length
 ·have hd:((x.length:Int) != (y.length:Int))=false:=by simp[hl]
  obtain⟨h1,h2⟩:=qeU (a:=x) (b:=y) (L:=fun m n i (_:Unit)=>Z44.l0 (mkR (run E m)) m n x y i) (fun u v=>u=v) (rt:=some ⟨o_Z44,(true,())⟩) (rf:=some ⟨o_Z44,(false,())⟩) hl.symm
   (fun k h h' hne=>by
   obtain⟨b,hb,hbe⟩:=qb2 x[k] y[k] (hx.2 _ (List.getElem_mem h))
   have hb0:b=false:=by cases b<;>simp_all
   subst hb0
   refine hb.mono fun m hm n=>?_
   show Z44.l0 _ _ _ _ _ _=_
   rw[Z44.l0_succ _ qag,decide_eq_true (show(k:Int)<x.length by omega),cond_true,qah h,qah h']
   simp only[Option.bind_some,qat hm,Bool.not_false,Bool.not_true,cond_true,cond_false])
   (fun k h h' he=>by
   obtain⟨b,hb,hbe⟩:=qb2 x[k] y[k] (hx.2 _ (List.getElem_mem h))
   have hb0:b=true:=by cases b<;>simp_all
   subst hb0
   refine hb.mono fun m hm n=>?_
   show Z44.l0 _ _ _ _ _ _=_
   rw[Z44.l0_succ _ qag,decide_eq_true (show(k:Int)<x.length by omega),cond_true,qah h,qah h']
   simp only[Option.bind_some,qat hm,Bool.not_false,Bool.not_true,cond_true,cond_false]
   rw[qai (by omega)])
   (Evt.of fun m n=>by
   show Z44.l0 _ _ _ _ _ _=_
   rw[Z44.l0_succ _ qag,decide_eq_false (by omega),cond_false])
  by_cases he:x=y
  ·refine⟨true,Evt.succ ((h1 (by subst he;intros;rfl)).mono fun n h=>?_),by simp[he]⟩
   rw[run_Z44,Z44.ev,hd,cond_false]
   exact h
  ·refine⟨false,Evt.succ ((h2 fun hh=>he (List.ext_getElem hl hh)).mono fun n h=>?_),by simp[he]⟩
   rw[run_Z44,Z44.ev,hd,cond_false]
   exact h
 ·have hd:((x.length:Int) != (y.length:Int))=true:=by simp;omega
  refine⟨false,Evt.succ (Evt.of fun n=>?_),⟨fun h=>(nomatch h),fun h=>absurd (congrArg List.length h) hl⟩⟩
  rw[run_Z44,Z44.ev,hd,cond_true]
theorem qhc(x:(vK×Unit))(l:Int)(hx:Wf (.st yC) x)(h0:0≤l)(h1:l≤1048576) :
  ∃ r:Int,Ret E n_Z48 [⟨yK,x.1⟩,⟨.int .i64,l⟩] ⟨o_Z48,(r,())⟩∧(0≤r→r≤l∧Sm (.st yC) x):=by
 obtain⟨r0,hr0,hs0⟩:=qgG x.1 l hx.1 (by omega) (by omega)
 by_cases hc0:r0<0
 ·refine⟨-1,Evt.succ (hr0.mono fun n e0=>?_),fun h=>by omega⟩
  rw[run_Z48,Z48.ev]
  simp only[Option.bind_some,cond_true,cond_false,qat e0,decide_eq_true hc0]
 have hb0:=hs0 (by omega)
 refine⟨r0,Evt.succ (hr0.mono fun n e0=>?_),fun h=>⟨by omega,?_⟩⟩
 ·skip
  rw[run_Z48,Z48.ev]
  simp only[Option.bind_some,cond_true,cond_false,qat e0,decide_eq_false hc0]
 ·exact⟨hb0.2,trivial⟩
theorem qgB(x:(vK×Unit))(hx:Sm (.st yC) x):Ret E n_Z54 [⟨yK,x.1⟩] ⟨o_Z54,x⟩:=by
 have hr0:=qgH x.1 hx.1
 refine Evt.succ (hr0.mono fun n e0=>?_)
 rw[run_Z54,Z54.ev]
 simp only[Option.bind_some,qat e0]
theorem qg9(x y:(vK×Unit))(hx:Sm (.st yC) x):∃ b:Bool,Ret E n_Z42 [⟨yK,x.1⟩,⟨yK,y.1⟩] ⟨o_Z42,(b,())⟩∧(b=true↔x=y):=by
 obtain⟨b0,hr0,hb0⟩:=qgZ x.1 y.1 hx.1
 refine⟨b0,Evt.succ (hr0.mono fun n e0=>?_),?_⟩
 ·skip
  rw[run_Z42,Z42.ev]
  simp only[Option.bind_some,qat e0]
  clear hx hr0 e0 hb0
  cases b0<;>rfl
 ·obtain⟨x0,_⟩:=x
  obtain⟨y0,_⟩:=y
  simp only[Bool.and_eq_true,decide_eq_true_eq,hb0,Prod.mk.injEq,and_true]
  try simp only[and_assoc]
theorem qhv(x:vM)(l:Int)(hx:Wf (.st yM) x)(h0:0≤l)(h1:l≤1048576) :
  ∃ r:Int,Ret E n_Z51 [⟨yI,x.1⟩,⟨yI,x.2.1⟩,⟨yI,x.2.2.1⟩,⟨yL,x.2.2.2.1⟩,⟨.int .i64,l⟩] ⟨o_Z51,(r,())⟩∧(0≤r→r≤l∧Sm (.st yM) x):=by
 obtain⟨r0,hr0,hs0⟩:=qcN x.2.2.2.1 l hx.2.2.2.1 (by omega) (by omega)
 by_cases hc0:r0<0
 ·refine⟨-1,Evt.succ (hr0.mono fun n e0=>?_),fun h=>by omega⟩
  rw[run_Z51,Z51.ev]
  simp only[Option.bind_some,cond_true,cond_false,qat e0,decide_eq_true hc0]
 have hb0:=hs0 (by omega)
 refine⟨r0,Evt.succ (hr0.mono fun n e0=>?_),fun h=>⟨by omega,?_⟩⟩
 ·skip
  rw[run_Z51,Z51.ev]
  simp only[Option.bind_some,cond_true,cond_false,qat e0,decide_eq_false hc0]
 ·exact⟨trivial,trivial,trivial,hb0.2,trivial⟩
theorem qhw(x:vM)(hx:Sm (.st yM) x):Ret E n_Z57 [⟨yI,x.1⟩,⟨yI,x.2.1⟩,⟨yI,x.2.2.1⟩,⟨yL,x.2.2.2.1⟩] ⟨o_Z57,x⟩:=by
 have hr0:=qcH x.2.2.2.1 hx.2.2.2.1
 refine Evt.succ (hr0.mono fun n e0=>?_)
 rw[run_Z57,Z57.ev]
 simp only[Option.bind_some,qat e0]
theorem qeA(x y:vM)(hx:Sm (.st yM) x):∃ b:Bool,Ret E n_Z45 [⟨yI,x.1⟩,⟨yI,x.2.1⟩,⟨yI,x.2.2.1⟩,⟨yL,x.2.2.2.1⟩,⟨yI,y.1⟩,⟨yI,y.2.1⟩,⟨yI,y.2.2.1⟩,⟨yL,y.2.2.2.1⟩] ⟨o_Z45,(b,())⟩∧(b=true↔x=y):=by
 obtain⟨b0,hr0,hb0⟩:=qb2 x.2.2.2.1 y.2.2.2.1 hx.2.2.2.1
 refine⟨decide (x.1=y.1)&&decide (x.2.1=y.2.1)&&decide (x.2.2.1=y.2.2.1)&&b0,Evt.succ (hr0.mono fun n e0=>?_),?_⟩
 ·skip
  rw[run_Z45,Z45.ev]
  simp only[Option.bind_some,qat e0]
  simp only[show(x.1 != y.1)=!decide (x.1=y.1) from rfl]
  generalize decide (x.1=y.1)=d0
  simp only[show(x.2.1 != y.2.1)=!decide (x.2.1=y.2.1) from rfl]
  generalize decide (x.2.1=y.2.1)=d1
  simp only[show(x.2.2.1 != y.2.2.1)=!decide (x.2.2.1=y.2.2.1) from rfl]
  generalize decide (x.2.2.1=y.2.2.1)=d2
  clear hx hr0 e0 hb0
  cases d0<;>cases d1<;>cases d2<;>cases b0<;>rfl
 ·obtain⟨x0,x1,x2,x3,_⟩:=x
  obtain⟨y0,y1,y2,y3,_⟩:=y
  simp only[Bool.and_eq_true,decide_eq_true_eq,hb0,Prod.mk.injEq,and_true]
  try simp only[and_assoc]
theorem qgS(x:vN)(l:Int)(hx:Wf yN x)(h0:0≤l)(h1:l≤1048576) :
    ∃ r:Int,Ret E n_Z52 [⟨yN,x⟩,⟨.int .i64,l⟩] ⟨o_Z52,(r,())⟩∧(0≤r→r≤l∧Sm yN x):=by
  have hx1:x.length≤maxLen:=hx.1
  rw[qfq] at hx1
  have hw:w64 (l-x.length)=l-x.length:=qaq (by omega) (by omega)
  by_cases hc:l-(x.length:Int)<0
  · refine⟨-1,Evt.succ (Evt.of fun n=>?_),fun h=>by omega⟩
    rw[run_Z52,Z52.ev,hw,decide_eq_true hc];rfl
  · obtain⟨r,hr,hs⟩:=qjx (xs:=x) (L:=fun m n i left=>Z52.l0 (mkR (run E m)) m n x left i) (ret:=fun r=>some ⟨o_Z52,(r,())⟩) (fun x=>Sm (.st yM) x) (fun k left hk hl0 hl1=>by
      obtain⟨r,hr,hs⟩:=qhv x[k] left (hx.2 _ (List.getElem_mem hk)) hl0 hl1
      refine⟨r,hs,hr.mono fun m h n=>?_⟩
      show Z52.l0 _ _ _ _ _ _=_
      rw[Z52.l0_succ _ qag,decide_eq_true (show(k:Int)<x.length by omega),cond_true,qah hk]
      simp only[Option.bind_some,qat h]
      rw[qai (by omega)]) (fun left=>Evt.of fun m n=>by
      show Z52.l0 _ _ _ _ _ _=_
      rw[Z52.l0_succ _ qag,decide_eq_false (by omega),cond_false]) (l-x.length) (by omega) (by omega)
    refine⟨r,Evt.succ (hr.mono fun n h=>?_),fun h=>⟨by have:=(hs h).1;omega,by omega,(hs h).2⟩⟩
    rw[run_Z52,Z52.ev,hw,decide_eq_false hc]
    exact h
theorem qgs(x:vN)(hx:Sm yN x):Ret E n_Z58 [⟨yN,x⟩] ⟨o_Z58,(x,())⟩:=by
  have hx1:x.length≤1048576:=hx.1
  have hl:=qe9 (a:=x) (L:=fun m n i o=>Z58.l0 (mkR (run E m)) m n x i o) (z:=List.replicate (Int.toNat (List.length x:Int)) ((0:Int),(0:Int),(0:Int),([]:List Int),())) (r:=some ⟨o_Z58,(x,())⟩) (by simp) (fun k o hk ho=>by
      have hr:=qhw x[k] (hx.2 _ (List.getElem_mem hk))
      refine hr.mono fun m h n=>?_
      show Z58.l0 _ _ _ _ _ _=_
      rw[Z58.l0_succ _ qag,decide_eq_true (show(k:Int)<x.length by omega),cond_true,qah hk]
      simp only[Option.bind_some,qat h]
      rw[qc8 (by simp;omega),qai (by omega),Int.toNat_natCast]) (Evt.of fun m n=>by
      show Z58.l0 _ _ _ _ _ _=_
      rw[Z58.l0_succ _ qag,decide_eq_false (by omega),cond_false])
  refine Evt.succ (hl.mono fun n h=>?_)
  rw[run_Z58,Z58.ev,qc8 (by simp;omega)]
  exact h
theorem qgI(x y:vN)(hx:Sm yN x):∃ b:Bool,Ret E n_Z46 [⟨yN,x⟩,⟨yN,y⟩] ⟨o_Z46,(b,())⟩∧(b=true↔x=y):=by
 have hx1:x.length≤1048576:=hx.1
 by_cases hl:x.length=y.length
 ·have hd:((x.length:Int) != (y.length:Int))=false:=by simp[hl]
  obtain⟨h1,h2⟩:=qeU (a:=x) (b:=y) (L:=fun m n i (_:Unit)=>Z46.l0 (mkR (run E m)) m n x y i) (fun u v=>u=v) (rt:=some ⟨o_Z46,(true,())⟩) (rf:=some ⟨o_Z46,(false,())⟩) hl.symm
   (fun k h h' hne=>by
   obtain⟨b,hb,hbe⟩:=qeA x[k] y[k] (hx.2 _ (List.getElem_mem h))
   have hb0:b=false:=by cases b<;>simp_all
   subst hb0
   refine hb.mono fun m hm n=>?_
   show Z46.l0 _ _ _ _ _ _=_
   rw[Z46.l0_succ _ qag,decide_eq_true (show(k:Int)<x.length by omega),cond_true,qah h,qah h']
   simp only[Option.bind_some,qat hm,Bool.not_false,Bool.not_true,cond_true,cond_false])
   (fun k h h' he=>by
   obtain⟨b,hb,hbe⟩:=qeA x[k] y[k] (hx.2 _ (List.getElem_mem h))
   have hb0:b=true:=by cases b<;>simp_all
   subst hb0
   refine hb.mono fun m hm n=>?_
   show Z46.l0 _ _ _ _ _ _=_
   rw[Z46.l0_succ _ qag,decide_eq_true (show(k:Int)<x.length by omega),cond_true,qah h,qah h']
   simp only[Option.bind_some,qat hm,Bool.not_false,Bool.not_true,cond_true,cond_false]
   rw[qai (by omega)])
   (Evt.of fun m n=>by
   show Z46.l0 _ _ _ _ _ _=_
   rw[Z46.l0_succ _ qag,decide_eq_false (by omega),cond_false])
  by_cases he:x=y
  ·refine⟨true,Evt.succ ((h1 (by subst he;intros;rfl)).mono fun n h=>?_),by simp[he]⟩
   rw[run_Z46,Z46.ev,hd,cond_false]
   exact h
  ·refine⟨false,Evt.succ ((h2 fun hh=>he (List.ext_getElem hl hh)).mono fun n h=>?_),by simp[he]⟩
   rw[run_Z46,Z46.ev,hd,cond_false]
   exact h
 ·have hd:((x.length:Int) != (y.length:Int))=true:=by simp;omega
  refine⟨false,Evt.succ (Evt.of fun n=>?_),⟨fun h=>(nomatch h),fun h=>absurd (congrArg List.length h) hl⟩⟩
  rw[run_Z46,Z46.ev,hd,cond_true]
theorem qin(x:vS)(l:Int)(hx:Wf (.st yS) x)(h0:0≤l)(h1:l≤1048576) :
  ∃ r:Int,Ret E n_Z53 [⟨yK,x.1⟩,⟨yI,x.2.1⟩,⟨yL,x.2.2.1⟩,⟨yN,x.2.2.2.1⟩,⟨.int .i64,l⟩] ⟨o_Z53,(r,())⟩∧(0≤r→r≤l∧Sm (.st yS) x):=by
 obtain⟨r0,hr0,hs0⟩:=qhc (x.1,()) l ⟨hx.1,trivial⟩ (by omega) (by omega)
 by_cases hc0:r0<0
 ·refine⟨-1,Evt.succ (hr0.mono fun n e0=>?_),fun h=>by omega⟩
  rw[run_Z53,Z53.ev]
  simp only[Option.bind_some,cond_true,cond_false,qat e0,decide_eq_true hc0]
 have hb0:=hs0 (by omega)
 obtain⟨r1,hr1,hs1⟩:=qcN x.2.2.1 r0 hx.2.2.1 (by omega) (by omega)
 by_cases hc1:r1<0
 ·refine⟨-1,Evt.succ ((hr0.and hr1).mono fun n hh=>?_),fun h=>by omega⟩
  obtain⟨e0,e1⟩:=hh
  rw[run_Z53,Z53.ev]
  simp only[Option.bind_some,cond_true,cond_false,qat e0,qat e1,decide_eq_false hc0,decide_eq_true hc1]
 have hb1:=hs1 (by omega)
 obtain⟨r2,hr2,hs2⟩:=qgS x.2.2.2.1 r1 hx.2.2.2.1 (by omega) (by omega)
 by_cases hc2:r2<0
 ·refine⟨-1,Evt.succ (((hr0.and hr1).and hr2).mono fun n hh=>?_),fun h=>by omega⟩
  obtain⟨⟨e0,e1⟩,e2⟩:=hh
  rw[run_Z53,Z53.ev]
  simp only[Option.bind_some,cond_true,cond_false,qat e0,qat e1,qat e2,decide_eq_false hc0,decide_eq_false hc1,decide_eq_true hc2]
 have hb2:=hs2 (by omega)
 refine⟨r2,Evt.succ (((hr0.and hr1).and hr2).mono fun n hh=>?_),fun h=>⟨by omega,?_⟩⟩
 ·obtain⟨⟨e0,e1⟩,e2⟩:=hh
  rw[run_Z53,Z53.ev]
  simp only[Option.bind_some,cond_true,cond_false,qat e0,qat e1,qat e2,decide_eq_false hc0,decide_eq_false hc1,decide_eq_false hc2]
 ·exact⟨hb0.2.1,trivial,hb1.2,hb2.2,trivial⟩
theorem qii(x:vS)(hx:Sm (.st yS) x):Ret E n_Z59 [⟨yK,x.1⟩,⟨yI,x.2.1⟩,⟨yL,x.2.2.1⟩,⟨yN,x.2.2.2.1⟩] ⟨o_Z59,x⟩:=by
 have hr0:=qgB (x.1,()) ⟨hx.1,trivial⟩
 have hr1:=qcH x.2.2.1 hx.2.2.1
 have hr2:=qgs x.2.2.2.1 hx.2.2.2.1
 refine Evt.succ (((hr0.and hr1).and hr2).mono fun n hh=>?_)
 obtain⟨⟨e0,e1⟩,e2⟩:=hh
 rw[run_Z59,Z59.ev]
 simp only[Option.bind_some,qat e0,qat e1,qat e2]
theorem qio(x y:vS)(hx:Sm (.st yS) x):∃ b:Bool,Ret E n_Z47 [⟨yK,x.1⟩,⟨yI,x.2.1⟩,⟨yL,x.2.2.1⟩,⟨yN,x.2.2.2.1⟩,⟨yK,y.1⟩,⟨yI,y.2.1⟩,⟨yL,y.2.2.1⟩,⟨yN,y.2.2.2.1⟩] ⟨o_Z47,(b,())⟩∧(b=true↔x=y):=by
 obtain⟨b0,hr0,hb0⟩:=qg9 (x.1,()) (y.1,()) ⟨hx.1,trivial⟩
 obtain⟨b1,hr1,hb1⟩:=qb2 x.2.2.1 y.2.2.1 hx.2.2.1
 obtain⟨b2,hr2,hb2⟩:=qgI x.2.2.2.1 y.2.2.2.1 hx.2.2.2.1
 refine⟨b0&&decide (x.2.1=y.2.1)&&b1&&b2,Evt.succ (((hr0.and hr1).and hr2).mono fun n hh=>?_),?_⟩
 ·obtain⟨⟨e0,e1⟩,e2⟩:=hh
  rw[run_Z47,Z47.ev]
  simp only[Option.bind_some,qat e0,qat e1,qat e2]
  simp only[show(x.2.1 != y.2.1)=!decide (x.2.1=y.2.1) from rfl]
  generalize decide (x.2.1=y.2.1)=d1
  clear hx hr0 e0 hb0 hr1 e1 hb1 hr2 e2 hb2
  cases b0<;>cases d1<;>cases b1<;>cases b2<;>rfl
 ·obtain⟨x0,x1,x2,x3,_⟩:=x
  obtain⟨y0,y1,y2,y3,_⟩:=y
  simp only[Bool.and_eq_true,decide_eq_true_eq,hb0,hb1,hb2,Prod.mk.injEq,and_true]
  try simp only[and_assoc]
end VeT
open Go Go.Proofs Ve
namespace VeT
theorem qaQ(s:List (List Int))(c:((vK×Unit)×(Int×Unit)×Unit))(p:(List Int)→Bool)(hs:s.length≤1048576)(hp:∀ x∈s,Ret E n_Z11 [⟨yL,x⟩,⟨(.ptr yC),c.1⟩,⟨(.ptr (.cons yI .nil)),c.2.1⟩] ⟨o_Z11,(p x,())⟩) :
    Ret E n_Z74 [⟨yK,s⟩,⟨(.fn n_Z11 (.cons (.ptr yC) (.cons (.ptr (.cons yI .nil)) .nil))),c⟩] ⟨o_Z74,(qh6 p s,())⟩:=by
  obtain⟨o,h1,h2,h3⟩:=qby 1 (L:=fun φ n k=>Z75.l0 (mkR (run E (φ 0))) (φ 0) n s c (s.length:Int) k) (len:=s.length) (fun k=>∃ h:k<s.length,p s[k]=true) (fun o=>some ⟨o_Z74,(o2i o,())⟩) (fun _ _ _ _=>rfl) (fun k hk hP=>by
      obtain⟨_,hP⟩:=hP
      simp only[Z75.l0_succ _ qag]
      refine qaF (decide_eq_true (by omega)) (qaf (qah hk) (qac (hp _ (List.getElem_mem hk)) (qaF hP qan)))) (fun k q hk hP ih=>by
      simp only[Z75.l0_succ _ qag]
      refine qaF (decide_eq_true (by omega)) (qaf (qah hk) (qac (hp _ (List.getElem_mem hk)) (qaL (Bool.eq_false_iff.2 fun h=>hP ⟨hk,h⟩) ?_)))
      rw[qai (by omega)];exact ih) (by
      simp only[Z75.l0_succ _ qag]
      exact qaL (decide_eq_false (by omega)) qan)
  rw[qcT h1 h2] at h3
  refine qao ?_
  simp only[run_Z74,Z75.ev]
  exact Ev.start (p:=fun φ n=>Z75.l0 (mkR (run E (φ 0))) (φ 0) n s c (s.length:Int) 0=_) 1 h3 (fun _ _ _ h=>h)
theorem qa4(s:List Int)(p:Int→Bool)(hs:s.length≤1048576)(hp:∀ x∈s,Ret E n_Z8 [⟨yI,x⟩] ⟨o_Z8,(p x,())⟩) :
    Ret E n_Z76 [⟨yL,s⟩,⟨(.fn n_Z8 .nil),()⟩] ⟨o_Z76,(qh6 p s,())⟩:=by
  obtain⟨o,h1,h2,h3⟩:=qby 1 (L:=fun φ n k=>Z77.l0 (mkR (run E (φ 0))) (φ 0) n s (s.length:Int) k) (len:=s.length) (fun k=>∃ h:k<s.length,p s[k]=true) (fun o=>some ⟨o_Z76,(o2i o,())⟩) (fun _ _ _ _=>rfl) (fun k hk hP=>by
      obtain⟨_,hP⟩:=hP
      simp only[Z77.l0_succ _ qag]
      refine qaF (decide_eq_true (by omega)) (qaf (qah hk) (qac (hp _ (List.getElem_mem hk)) (qaF hP qan)))) (fun k q hk hP ih=>by
      simp only[Z77.l0_succ _ qag]
      refine qaF (decide_eq_true (by omega)) (qaf (qah hk) (qac (hp _ (List.getElem_mem hk)) (qaL (Bool.eq_false_iff.2 fun h=>hP ⟨hk,h⟩) ?_)))
      rw[qai (by omega)];exact ih) (by
      simp only[Z77.l0_succ _ qag]
      exact qaL (decide_eq_false (by omega)) qan)
  rw[qcT h1 h2] at h3
  refine qao ?_
  simp only[run_Z76,Z77.ev]
  exact Ev.start (p:=fun φ n=>Z77.l0 (mkR (run E (φ 0))) (φ 0) n s (s.length:Int) 0=_) 1 h3 (fun _ _ _ h=>h)
theorem qaT(s:List Int)(p:Int→Bool)(hs:s.length≤1048576)(hp:∀ x∈s,Ret E n_Z16 [⟨yI,x⟩] ⟨o_Z16,(p x,())⟩) :
    Ret E n_Z76 [⟨yL,s⟩,⟨(.fn n_Z16 .nil),()⟩] ⟨o_Z76,(qh6 p s,())⟩:=by
  obtain⟨o,h1,h2,h3⟩:=qby 1 (L:=fun φ n k=>Z78.l0 (mkR (run E (φ 0))) (φ 0) n s (s.length:Int) k) (len:=s.length) (fun k=>∃ h:k<s.length,p s[k]=true) (fun o=>some ⟨o_Z76,(o2i o,())⟩) (fun _ _ _ _=>rfl) (fun k hk hP=>by
      obtain⟨_,hP⟩:=hP
      simp only[Z78.l0_succ _ qag]
      refine qaF (decide_eq_true (by omega)) (qaf (qah hk) (qac (hp _ (List.getElem_mem hk)) (qaF hP qan)))) (fun k q hk hP ih=>by
      simp only[Z78.l0_succ _ qag]
      refine qaF (decide_eq_true (by omega)) (qaf (qah hk) (qac (hp _ (List.getElem_mem hk)) (qaL (Bool.eq_false_iff.2 fun h=>hP ⟨hk,h⟩) ?_)))
      rw[qai (by omega)];exact ih) (by
      simp only[Z78.l0_succ _ qag]
      exact qaL (decide_eq_false (by omega)) qan)
  rw[qcT h1 h2] at h3
  refine qao ?_
  simp only[run_Z76,Z78.ev]
  exact Ev.start (p:=fun φ n=>Z78.l0 (mkR (run E (φ 0))) (φ 0) n s (s.length:Int) 0=_) 1 h3 (fun _ _ _ h=>h)
theorem qaW(s:List Int)(c:((Int×Unit)×Unit))(p:Int→Bool)(hs:s.length≤1048576)(hp:∀ x∈s,Ret E n_Z18 [⟨yI,x⟩,⟨(.ptr (.cons yI .nil)),c.1⟩] ⟨o_Z18,(p x,())⟩) :
    Ret E n_Z76 [⟨yL,s⟩,⟨(.fn n_Z18 (.cons (.ptr (.cons yI .nil)) .nil)),c⟩] ⟨o_Z76,(qh6 p s,())⟩:=by
  obtain⟨o,h1,h2,h3⟩:=qby 1 (L:=fun φ n k=>Z79.l0 (mkR (run E (φ 0))) (φ 0) n s c (s.length:Int) k) (len:=s.length) (fun k=>∃ h:k<s.length,p s[k]=true) (fun o=>some ⟨o_Z76,(o2i o,())⟩) (fun _ _ _ _=>rfl) (fun k hk hP=>by
      obtain⟨_,hP⟩:=hP
      simp only[Z79.l0_succ _ qag]
      refine qaF (decide_eq_true (by omega)) (qaf (qah hk) (qac (hp _ (List.getElem_mem hk)) (qaF hP qan)))) (fun k q hk hP ih=>by
      simp only[Z79.l0_succ _ qag]
      refine qaF (decide_eq_true (by omega)) (qaf (qah hk) (qac (hp _ (List.getElem_mem hk)) (qaL (Bool.eq_false_iff.2 fun h=>hP ⟨hk,h⟩) ?_)))
      rw[qai (by omega)];exact ih) (by
      simp only[Z79.l0_succ _ qag]
      exact qaL (decide_eq_false (by omega)) qan)
  rw[qcT h1 h2] at h3
  refine qao ?_
  simp only[run_Z76,Z79.ev]
  exact Ev.start (p:=fun φ n=>Z79.l0 (mkR (run E (φ 0))) (φ 0) n s c (s.length:Int) 0=_) 1 h3 (fun _ _ _ h=>h)
theorem qa1(s:List Int)(p:Int→Bool)(hs:s.length≤1048576)(hp:∀ x∈s,Ret E n_Z20 [⟨yI,x⟩] ⟨o_Z20,(p x,())⟩) :
    Ret E n_Z76 [⟨yL,s⟩,⟨(.fn n_Z20 .nil),()⟩] ⟨o_Z76,(qh6 p s,())⟩:=by
  obtain⟨o,h1,h2,h3⟩:=qby 1 (L:=fun φ n k=>Z80.l0 (mkR (run E (φ 0))) (φ 0) n s (s.length:Int) k) (len:=s.length) (fun k=>∃ h:k<s.length,p s[k]=true) (fun o=>some ⟨o_Z76,(o2i o,())⟩) (fun _ _ _ _=>rfl) (fun k hk hP=>by
      obtain⟨_,hP⟩:=hP
      simp only[Z80.l0_succ _ qag]
      refine qaF (decide_eq_true (by omega)) (qaf (qah hk) (qac (hp _ (List.getElem_mem hk)) (qaF hP qan)))) (fun k q hk hP ih=>by
      simp only[Z80.l0_succ _ qag]
      refine qaF (decide_eq_true (by omega)) (qaf (qah hk) (qac (hp _ (List.getElem_mem hk)) (qaL (Bool.eq_false_iff.2 fun h=>hP ⟨hk,h⟩) ?_)))
      rw[qai (by omega)];exact ih) (by
      simp only[Z80.l0_succ _ qag]
      exact qaL (decide_eq_false (by omega)) qan)
  rw[qcT h1 h2] at h3
  refine qao ?_
  simp only[run_Z76,Z80.ev]
  exact Ev.start (p:=fun φ n=>Z80.l0 (mkR (run E (φ 0))) (φ 0) n s (s.length:Int) 0=_) 1 h3 (fun _ _ _ h=>h)
theorem qa8(s:List Int)(c:(((List Int)×Unit)×Unit))(p:Int→Bool)(hs:s.length≤1048576)(hp:∀ x∈s,Ret E n_Z30 [⟨yI,x⟩,⟨(.ptr (.cons yL .nil)),c.1⟩] ⟨o_Z30,(p x,())⟩) :
    Ret E n_Z76 [⟨yL,s⟩,⟨(.fn n_Z30 (.cons (.ptr (.cons yL .nil)) .nil)),c⟩] ⟨o_Z76,(qh6 p s,())⟩:=by
  obtain⟨o,h1,h2,h3⟩:=qby 1 (L:=fun φ n k=>Z81.l0 (mkR (run E (φ 0))) (φ 0) n s c (s.length:Int) k) (len:=s.length) (fun k=>∃ h:k<s.length,p s[k]=true) (fun o=>some ⟨o_Z76,(o2i o,())⟩) (fun _ _ _ _=>rfl) (fun k hk hP=>by
      obtain⟨_,hP⟩:=hP
      simp only[Z81.l0_succ _ qag]
      refine qaF (decide_eq_true (by omega)) (qaf (qah hk) (qac (hp _ (List.getElem_mem hk)) (qaF hP qan)))) (fun k q hk hP ih=>by
      simp only[Z81.l0_succ _ qag]
      refine qaF (decide_eq_true (by omega)) (qaf (qah hk) (qac (hp _ (List.getElem_mem hk)) (qaL (Bool.eq_false_iff.2 fun h=>hP ⟨hk,h⟩) ?_)))
      rw[qai (by omega)];exact ih) (by
      simp only[Z81.l0_succ _ qag]
      exact qaL (decide_eq_false (by omega)) qan)
  rw[qcT h1 h2] at h3
  refine qao ?_
  simp only[run_Z76,Z81.ev]
  exact Ev.start (p:=fun φ n=>Z81.l0 (mkR (run E (φ 0))) (φ 0) n s c (s.length:Int) 0=_) 1 h3 (fun _ _ _ h=>h)
theorem qaJ(s:List (List Int))(c:((vK×Unit)×(Int×Unit)×Unit))(p:(List Int)→Bool)(hs:s.length≤1048576)(hp:∀ x∈s,Ret E n_Z11 [⟨yL,x⟩,⟨(.ptr yC),c.1⟩,⟨(.ptr (.cons yI .nil)),c.2.1⟩] ⟨o_Z11,(p x,())⟩) :
  Ret E n_Z64 [⟨yK,s⟩,⟨(.fn n_Z11 (.cons (.ptr yC) (.cons (.ptr (.cons yI .nil)) .nil))),c⟩] ⟨o_Z64,(pb (∃ x∈s,p x=true),())⟩:=by
 refine qao ?_
 simp only[run_Z64,Z65.ev]
 refine qac (qaQ s c p hs hp) (qaj ?_)
 simp only[ge_iff_le,qcI,qaC qa9]
theorem qaX(s:List Int)(p:Int→Bool)(hs:s.length≤1048576)(hp:∀ x∈s,Ret E n_Z8 [⟨yI,x⟩] ⟨o_Z8,(p x,())⟩) :
  Ret E n_Z66 [⟨yL,s⟩,⟨(.fn n_Z8 .nil),()⟩] ⟨o_Z66,(pb (∃ x∈s,p x=true),())⟩:=by
 refine qao ?_
 simp only[run_Z66,Z67.ev]
 refine qac (qa4 s p hs hp) (qaj ?_)
 simp only[ge_iff_le,qcI,qaC qa9]
theorem qaN(s:List Int)(p:Int→Bool)(hs:s.length≤1048576)(hp:∀ x∈s,Ret E n_Z16 [⟨yI,x⟩] ⟨o_Z16,(p x,())⟩) :
  Ret E n_Z66 [⟨yL,s⟩,⟨(.fn n_Z16 .nil),()⟩] ⟨o_Z66,(pb (∃ x∈s,p x=true),())⟩:=by
 refine qao ?_
 simp only[run_Z66,Z68.ev]
 refine qac (qaT s p hs hp) (qaj ?_)
 simp only[ge_iff_le,qcI,qaC qa9]
theorem qaO(s:List Int)(c:((Int×Unit)×Unit))(p:Int→Bool)(hs:s.length≤1048576)(hp:∀ x∈s,Ret E n_Z18 [⟨yI,x⟩,⟨(.ptr (.cons yI .nil)),c.1⟩] ⟨o_Z18,(p x,())⟩) :
  Ret E n_Z66 [⟨yL,s⟩,⟨(.fn n_Z18 (.cons (.ptr (.cons yI .nil)) .nil)),c⟩] ⟨o_Z66,(pb (∃ x∈s,p x=true),())⟩:=by
 refine qao ?_
 simp only[run_Z66,Z69.ev]
 refine qac (qaW s c p hs hp) (qaj ?_)
 simp only[ge_iff_le,qcI,qaC qa9]
theorem qaU(s:List Int)(p:Int→Bool)(hs:s.length≤1048576)(hp:∀ x∈s,Ret E n_Z20 [⟨yI,x⟩] ⟨o_Z20,(p x,())⟩) :
  Ret E n_Z66 [⟨yL,s⟩,⟨(.fn n_Z20 .nil),()⟩] ⟨o_Z66,(pb (∃ x∈s,p x=true),())⟩:=by
 refine qao ?_
 simp only[run_Z66,Z70.ev]
 refine qac (qa1 s p hs hp) (qaj ?_)
 simp only[ge_iff_le,qcI,qaC qa9]
theorem qa3(s:List Int)(c:(((List Int)×Unit)×Unit))(p:Int→Bool)(hs:s.length≤1048576)(hp:∀ x∈s,Ret E n_Z30 [⟨yI,x⟩,⟨(.ptr (.cons yL .nil)),c.1⟩] ⟨o_Z30,(p x,())⟩) :
  Ret E n_Z66 [⟨yL,s⟩,⟨(.fn n_Z30 (.cons (.ptr (.cons yL .nil)) .nil)),c⟩] ⟨o_Z66,(pb (∃ x∈s,p x=true),())⟩:=by
 refine qao ?_
 simp only[run_Z66,Z71.ev]
 refine qac (qa8 s c p hs hp) (qaj ?_)
 simp only[ge_iff_le,qcI,qaC qa9]
end VeT
open Go Go.Proofs Ve
namespace VeT
abbrev cM:Ty:=.cons yI (.cons yI (.cons yI (.cons yL .nil)))
abbrev cC:Ty:=.cons yK .nil
abbrev cS:Ty:=.cons yK (.cons yI (.cons yL (.cons (.sl (.st cM)) .nil)))
abbrev Mat:=Int×Int×Int×List Int×Unit
abbrev Cpx:=List (List Int)×Unit
abbrev Shf:=List (List Int)×Int×List Int×List Mat×Unit
abbrev Sim:=List Int
abbrev dI(x:Int):Dv:=⟨.int .i64,x⟩
abbrev dL(x:List Int):Dv:=⟨.sl yI,x⟩
abbrev dLL(x:List (List Int)):Dv:=⟨.sl yL,x⟩
abbrev dC(x:Cpx):Dv:=⟨.ptr cC,x⟩
abbrev dM(x:Mat):Dv:=⟨.ptr cM,x⟩
abbrev dS(x:Shf):Dv:=⟨.ptr cS,x⟩
abbrev dMs(x:List Mat):Dv:=⟨.sl (.st cM),x⟩
theorem qbR(n lo hi:Int):Ret E n_Z40 [dI n,dI lo,dI hi] ⟨o_Z40,(pb (lo≤n∧n≤hi),())⟩:=by
 refine qao ?_
 simp only[run_Z40,Z40.ev]
 refine qda (fun h=>qaj ?_) fun h=>qaj ?_
 ·rw[qcI,qaC (show n≤hi↔lo≤n∧n≤hi by omega)]
 ·rw[qap (by omega)]
theorem qbH(n lo hi:Int):Ret E n_Z86 [dI n,dI lo,dI hi] ⟨o_Z86,(pb (lo≤n∧n≤hi),())⟩:=by
 refine qao ?_
 simp only[run_Z86,Z86.ev]
 refine qda (fun h=>qaj ?_) fun h=>qaj ?_
 ·rw[qcI,qaC (show n≤hi↔lo≤n∧n≤hi by omega)]
 ·rw[qap (by omega)]
theorem qhe(n:Int):Ret E n_Z34 [dI n] ⟨o_Z34,(pb (0≤n∧n≤9),())⟩:=by
 refine qao ?_
 simp only[run_Z34,Z34.ev]
 exact qac (qbR _ _ _) qan
theorem qdT(n:Int):Ret E n_Z16 [dI n] ⟨o_Z16,(!pb (0≤n∧n≤9),())⟩:=by
 refine qao ?_
 simp only[run_Z16,Z16.ev]
 exact qac (qhe _) qan
def qle(s:Sim):Prop:=∀ j,1≤j→j<s.length→s.getD (j-1) 0<s.getD j 0
theorem qhQ(s:Sim)(hs:Sm yL s):Ret E n_Z31 [dL s] ⟨o_Z31,(pb (qle s),())⟩:=by
 have hs1:s.length≤1048576:=hs.1
 refine qao ?_
 simp only[run_Z31,Z31.ev]
 by_cases h0:s.length=0
 ·refine Ev.start (p:=fun φ n=>Z31.l0 (mkR (run E (φ 0))) (φ 0) n s 1=_) 1 ?_ (fun _ _ _ h=>h)
  refine qeK 1 (σ:=Unit) (L:=fun φ n _=>Z31.l0 (mkR (run E (φ 0))) (φ 0) n s 1) (fun _ _ _ _=>rfl) (fun _=>True) (fun _=>_) (fun _=>0) (fun _ _ _=>?_) () trivial
  simp only[Z31.l0_succ _ qag]
  refine qaL (decide_eq_false (by omega)) (qaj ?_)
  rw[qaE]
  intro j h1 h2;omega
 ·refine Ev.start (p:=fun φ n=>Z31.l0 (mkR (run E (φ 0))) (φ 0) n s 1=_) 1 ?_ (fun _ _ _ h=>h)
  refine qcF 1 (L:=fun φ n k=>Z31.l0 (mkR (run E (φ 0))) (φ 0) n s k) (len:=s.length) 1 (by omega) (fun j=>s.getD (j-1) 0<s.getD j 0) (fun b=>some ⟨o_Z31,(b,())⟩) (fun _ _ _ _=>rfl) (fun k h1 h2 hP _=>?_) (fun k r h1 h2 hP _ ih=>?_) (fun _=>?_)
  ·simp only[Z31.l0_succ _ qag]
   refine qaF (decide_eq_true (by omega)) ?_
   rw[qaq (by omega) (by omega),show((k:Int)-1)=((k-1:Nat):Int) by omega]
   refine qaf (qah (by omega)) (qaf (qah h2) (qaF (decide_eq_true ?_) qan))
   simpa [List.getD_eq_getElem?_getD,h2,show k-1<s.length by omega] using hP
  ·simp only[Z31.l0_succ _ qag]
   refine qaF (decide_eq_true (by omega)) ?_
   rw[qaq (by omega) (by omega),show((k:Int)-1)=((k-1:Nat):Int) by omega]
   refine qaf (qah (by omega)) (qaf (qah h2) (qaL (decide_eq_false ?_) ?_))
   ·simpa [List.getD_eq_getElem?_getD,h2,show k-1<s.length by omega] using hP
   ·rw[qai (by omega)];exact ih
  ·simp only[Z31.l0_succ _ qag]
   exact qaL (decide_eq_false (by omega)) qan
end VeT
open Go Go.Proofs Ve
namespace VeT
def Vx(s:Sim):Prop:=1≤s.length∧s.length≤4∧qle s∧∀ x∈s,0≤x∧x≤9
theorem qcB(s:Sim)(hs:Sm yL s):Ret E n_Z15 [dL s] ⟨o_Z15,(pb (Vx s),())⟩:=by
 refine qao ?_
 simp only[run_Z15,Z15.ev]
 refine qda (fun h1=>qda (fun h2=>qac (qhQ s hs) (qcm (fun h3=>qac (qaN s _ hs.1 fun x _=>qdT x) (qaj ?_)) fun h3=>qaj ?_)) fun h2=>qaj ?_) fun h1=>qaj ?_
 ·have h3:=qaz.1 h3
  have:(!pb (∃ x∈s,(!pb (0≤x∧x≤9))=true))=pb (Vx s):=qfU (by
   simp only[Bool.not_eq_true',qa5]
   exact⟨fun h=>⟨by omega,by omega,h3,fun x hx=>Classical.byContradiction fun hn=>h ⟨x,hx,hn⟩⟩,fun h ⟨x,hx,hn⟩=>hn (h.2.2.2 x hx)⟩)
  rw[this]
 ·rw[qap fun h=>qa5.1 h3 h.2.2.1]
 ·rw[qap fun h=>h2 (by have:=h.2.1;omega)]
 ·rw[qap fun h=>h1 (by have:=h.1;omega)]
theorem qhS(s:Sim)(lo hi:Int)(hs:Sm yL s):Ret E n_Z88 [dL s,dI lo,dI hi] ⟨o_Z88,(pb (qle s∧∀ x∈s,lo≤x∧x≤hi),())⟩:=by
 have hs1:s.length≤1048576:=hs.1
 refine qao ?_
 simp only[run_Z88,Z88.ev]
 refine Ev.start (p:=fun φ n=>Z88.l0 (mkR (run E (φ 0))) (φ 0) n s lo hi 0=_) 1 ?_ (fun _ _ _ h=>h)
 refine(qcF 1 (L:=fun φ n k=>Z88.l0 (mkR (run E (φ 0))) (φ 0) n s lo hi k) (len:=s.length) 0 (by omega) (fun j=>(lo≤s.getD j 0∧s.getD j 0≤hi)∧(1≤j→s.getD (j-1) 0<s.getD j 0)) (fun b=>some ⟨o_Z88,(b,())⟩) (fun _ _ _ _=>rfl) (fun k h1 h2 hP _=>?_) (fun k r h1 h2 hP _ ih=>?_) (fun _=>?_)).to ?_
 ·simp only[Z88.l0_succ _ qag]
  refine qaF (decide_eq_true (by omega)) (qaf (qah h2) (qac (qbH _ _ _) ?_))
  have e:s.getD k 0=s[k]:=by simp[List.getD_eq_getElem?_getD,h2]
  rw[e] at hP
  refine qcm (fun _=>?_) (fun hin=>?_)
  ·simp only[Z88.j1_eq _ qag,cond_true];(first | exact qan | exact Ev.of fun _=>trivial)
  ·have hin:lo≤s[k]∧s[k]≤hi:=qaz.1 (by simpa using hin)
   have hk:1≤k:=Classical.byContradiction fun h=>hP ⟨hin,fun h'=>absurd h' h⟩
   refine qaF (decide_eq_true (by omega)) ?_
   rw[qaq (by omega) (by omega),show((k:Int)-1)=((k-1:Nat):Int) by omega]
   refine qaf (qah (by omega)) (qaf (qah h2) ?_)
   have e':s.getD (k-1) 0=s[k-1]:=by simp[List.getD_eq_getElem?_getD,show k-1<s.length by omega]
   rw[e'] at hP
   have:decide (s[k-1]≥s[k])=true:=decide_eq_true (Classical.byContradiction fun h=>hP ⟨hin,fun _=>by omega⟩)
   simp only[this,Z88.j1_eq _ qag,cond_true];(first | exact qan | exact Ev.of fun _=>trivial)
 ·simp only[Z88.l0_succ _ qag]
  refine qaF (decide_eq_true (by omega)) (qaf (qah h2) (qac (qbH _ _ _) ?_))
  have e:s.getD k 0=s[k]:=by simp[List.getD_eq_getElem?_getD,h2]
  rw[e] at hP
  refine qaL (by rw[qaE hP.1];rfl) ?_
  refine qda (fun hk=>?_) fun hk=>?_
  ·rw[qaq (by omega) (by omega),show((k:Int)-1)=((k-1:Nat):Int) by omega]
   refine qaf (qah (by omega)) (qaf (qah h2) ?_)
   have e':s.getD (k-1) 0=s[k-1]:=by simp[List.getD_eq_getElem?_getD,show k-1<s.length by omega]
   rw[e'] at hP
   have:decide (s[k-1]≥s[k])=false:=decide_eq_false (by have:=hP.2 (by omega);omega)
   simp only[this,Z88.j1_eq _ qag,cond_false]
   rw[qai (by omega)];exact ih
  ·simp only[Z88.j1_eq _ qag,cond_false]
   rw[qai (by omega)];exact ih
 ·simp only[Z88.l0_succ _ qag]
  exact qaL (decide_eq_false (by omega)) qan
 ·refine congrArg (fun b:Bool=>some (⟨o_Z88,(b,())⟩:Dv)) (qaC ⟨fun h=>⟨fun j h1 h2=>(h j (by omega) h2).2 h1,fun x hx=>?_⟩,fun⟨h1,h2⟩ j _ hj=>⟨?_,fun h3=>h1 j h3 hj⟩⟩)
  ·obtain⟨j,hj,rfl⟩:=List.mem_iff_getElem.1 hx
   simpa [List.getD_eq_getElem?_getD,hj] using (h j (by omega) hj).1
  ·simpa [List.getD_eq_getElem?_getD,hj] using h2 _ (List.getElem_mem hj)
theorem qdl(s:Sim)(hs:Sm yL s):Ret E n_Z103 [dL s] ⟨o_Z103,(pb (Vx s),())⟩:=by
 refine qao ?_
 simp only[run_Z103,Z103.ev]
 refine qac (qbH _ _ _) (qcm (fun h1=>qac (qhS s _ _ hs) (qaj ?_)) fun h1=>qaj ?_)
 ·have h1:=qaz.1 h1
  exact congrArg (fun b:Bool=>some (⟨o_Z103,(b,())⟩:Dv)) (qaC ⟨fun h=>⟨by omega,by omega,h.1,h.2⟩,fun h=>⟨h.2.2.1,h.2.2.2⟩⟩)
 ·rw[qap fun h=>qa5.1 h1 ⟨by have:=h.1;omega,by have:=h.2.1;omega⟩]
def qf7(a b:Int):Int:=if a<b then -1 else if b<a then 1 else 0
def qc9:Sim→Sim→Int
 | [],[]=>0
 | [],_::_=>-1
 | _::_,[]=>1
 | x::xs,y::ys=>if x<y then -1 else if y<x then 1 else qc9 xs ys
def qdF(a b:Sim):Int:=if qf7 a.length b.length≠0 then qf7 a.length b.length else qc9 a b
theorem qcL{a b:Int}:qf7 a b=0↔a=b:=by unfold qf7;split<;>(try split)<;>omega
theorem qkm{a b:Int}:qf7 b a=- qf7 a b:=by unfold qf7;split<;>split<;>(try split)<;>omega
theorem qjq{a b:Int}:qf7 a b<0↔a<b:=by unfold qf7;split<;>(try split)<;>omega
theorem qjt:∀ {a b:Sim},qc9 a b=0↔a=b
 | [],[]=>by simp[qc9]
 | [],_::_=>by simp[qc9]
 | _::_,[]=>by simp[qc9]
 | x::xs,y::ys=>by
  have:=@qjt xs ys
  simp only[qc9,List.cons.injEq]
  split
  ·constructor
   ·intro h;omega
   ·rintro⟨rfl,_⟩;omega
  ·split
   ·constructor
    ·intro h;omega
    ·rintro⟨rfl,_⟩;omega
   ·rw[this];constructor
    ·intro h;exact⟨by omega,h⟩
    ·exact fun h=>h.2
theorem qiH:∀ {a b:Sim},qc9 b a=- qc9 a b
 | [],[]=>by simp[qc9]
 | [],_::_=>by simp[qc9]
 | _::_,[]=>by simp[qc9]
 | x::xs,y::ys=>by
  have:=@qiH xs ys
  simp only[qc9]
  split<;>split<;>(try split)<;>omega
theorem qgf:∀ {a b c:Sim},qc9 a b<0→qc9 b c<0→qc9 a c<0
 | [],[],c,h,_=>by simp[qc9] at h
 | [],_::_,[],_,h=>by simp[qc9] at h
 | [],_::_,_::_,_,_=>by simp[qc9]
 | _::_,[],_,h,_=>by simp[qc9] at h
 | _::_,_::_,[],_,h=>by simp[qc9] at h
 | x::xs,y::ys,z::zs,h1,h2=>by
  have:=@qgf xs ys zs
  simp only[qc9] at h1 h2 ⊢
  split at h1<;>split at h2<;>(try split at h1)<;>(try split at h2)<;>(try split)<;>(try split)<;>first | omega | (exact this h1 h2)
theorem qfa{a b:Sim}:qdF a b=0↔a=b:=by
 unfold qdF
 split
 ·rename_i h
  exact⟨fun h'=>absurd h' h,fun h'=>absurd (qcL.2 (by rw[h'])) h⟩
 ·exact qjt
theorem qke{a b:Sim}:qdF b a=- qdF a b:=by
 unfold qdF
 rw[@qkm a.length b.length]
 split<;>split<;>first | omega | exact qiH
theorem qg4{a b:Sim}:qdF a b<0↔a.length<b.length∨a.length=b.length∧qc9 a b<0:=by
 unfold qdF
 split
 ·rename_i h
  rw[qjq]
  rw[Ne,qcL] at h
  omega
 ·rename_i h
  rw[Classical.not_not,qcL] at h
  omega
theorem qf3{a b c:Sim}(h1:qdF a b<0)(h2:qdF b c<0):qdF a c<0:=by
 rw[qg4] at *
 rcases h1 with h1 | ⟨h1,h1'⟩<;>rcases h2 with h2 | ⟨h2,h2'⟩
 ·left;omega
 ·left;omega
 ·left;omega
 ·right;exact⟨by omega,qgf h1' h2'⟩
theorem qgn(a:Int):Ret E n_Z3 [dI a] ⟨o_Z3,(false,())⟩:=by
 refine qao ?_
 simp only[run_Z3,Z3.ev]
 exact qaj (by simp)
theorem qhz(a:Int):Ret E n_Z4 [dI a] ⟨o_Z4,(false,())⟩:=by
 refine qao ?_
 simp only[run_Z4,Z4.ev]
 exact qaj (by simp)
theorem qhq(a b:Int):Ret E n_Z0 [dI a,dI b] ⟨o_Z0,(qf7 a b,())⟩:=by
 refine qao ?_
 simp only[run_Z0,Z0.ev]
 refine qac (qgn _) (qac (qgn _) (qaL rfl (qaL rfl (qda (fun h=>qaj ?_) fun h=>qda (fun h2=>qaj ?_) fun h2=>qaj ?_))))
 ·rw[qf7,if_pos h]
 ·rw[qf7,if_neg h,if_pos h2]
 ·rw[qf7,if_neg h,if_neg h2]
theorem qiA(a b:Int):Ret E n_Z1 [dI a,dI b] ⟨o_Z1,(qf7 a b,())⟩:=by
 refine qao ?_
 simp only[run_Z1,Z1.ev]
 refine qac (qhz _) (qac (qhz _) (qaL rfl (qaL rfl (qda (fun h=>qaj ?_) fun h=>qda (fun h2=>qaj ?_) fun h2=>qaj ?_))))
 ·rw[qf7,if_pos h]
 ·rw[qf7,if_neg h,if_pos h2]
 ·rw[qf7,if_neg h,if_neg h2]
theorem qfv{a b:Sim}{k:Nat}(h:k<a.length)(h':k<b.length):qc9 (a.drop k) (b.drop k)=if qf7 a[k] b[k]≠0 then qf7 a[k] b[k] else qc9 (a.drop (k+1)) (b.drop (k+1)):=by
 rw[List.drop_eq_getElem_cons h,List.drop_eq_getElem_cons h',qc9]
 unfold qf7
 split
 ·simp
 ·split
  ·simp
  ·simp
theorem qeJ(a b:Sim)(ha:Sm yL a):Ret E n_Z62 [dL a,dL b] ⟨o_Z62,(qc9 a b,())⟩:=by
 have ha1:a.length≤1048576:=ha.1
 refine qao ?_
 simp only[run_Z62,Z62.ev]
 refine Ev.start (p:=fun φ n=>Z62.l0 (mkR (run E (φ 0))) (φ 0) n a b a (a.length:Int) 0=_) 1 ?_ (fun _ _ _ h=>h)
 refine qeK 1 (σ:=Nat) (L:=fun φ n k=>Z62.l0 (mkR (run E (φ 0))) (φ 0) n a b a (a.length:Int) (k:Int)) (fun _ _ _ _=>rfl) (fun k=>k≤a.length∧k≤b.length) (fun k=>some ⟨o_Z62,(qc9 (a.drop k) (b.drop k),())⟩) (fun k=>a.length-k) (fun k ⟨hk,hkb⟩ ih=>?_) 0 ⟨Nat.zero_le _,Nat.zero_le _⟩
 simp only[Z62.l0_succ _ qag]
 refine qda (fun h=>?_) fun h=>?_
 ·have hka:k<a.length:=by omega
  refine qaf (qah hka) (qda (fun h2=>qaj ?_) fun h2=>?_)
  ·rw[List.drop_eq_getElem_cons hka,List.drop_of_length_le (l:=b) (by omega),qc9]
  ·have hkb:k<b.length:=by omega
   refine qaf (qah hkb) (qac (qiA _ _) (qcm (fun h3=>qaj ?_) fun h3=>?_))
   ·rw[qfv hka hkb,if_pos (by simpa using h3)]
   ·rw[qai (by omega)]
    refine(ih (k+1) ⟨by omega,by omega⟩ (by omega)).to ?_
    rw[qfv hka hkb,if_neg (by simpa using h3)]
 ·have e:k=a.length:=by omega
  subst e
  refine qda (fun h2=>qaj ?_) fun h2=>qaj ?_
  ·rw[List.drop_of_length_le (l:=a) (by omega),List.drop_eq_getElem_cons (l:=b) (by omega),qc9]
  ·rw[List.drop_of_length_le (l:=a) (by omega),List.drop_of_length_le (l:=b) (by omega),qc9]
theorem qkZ(a b:Int):Ret E n_Z2 [dL [a,b]] ⟨o_Z2,(if a≠0 then a else b,())⟩:=by
 refine qao ?_
 simp only[run_Z2,Z2.ev]
 refine Ev.start (p:=fun φ n=>Z2.l0 (mkR (run E (φ 0))) (φ 0) n 0 [a,b] ([a,b].length:Int) 0=_) 1 ?_ (fun _ _ _ h=>h)
 refine Ev.round 1 (L:=fun φ n=>Z2.l0 (mkR (run E (φ 0))) (φ 0) n 0 [a,b] ([a,b].length:Int) 0) ?_ (fun _ _ _=>rfl)
 simp only[Z2.l0_succ _ qag]
 refine qaF (by simp) (qaf (x:=a) rfl (qcm (fun h=>qaj ?_) fun h=>?_))
 ·rw[if_pos (by simpa using h)]
 ·rw[if_neg (by simpa using h)]
  rw[show w64 ((0:Int)+1)=1 by decide]
  refine Ev.round 1 (L:=fun φ n=>Z2.l0 (mkR (run E (φ 0))) (φ 0) n 0 [a,b] ([a,b].length:Int) 1) ?_ (fun _ _ _=>rfl)
  simp only[Z2.l0_succ _ qag]
  refine qaF (by simp) (qaf (x:=b) rfl (qcm (fun h=>qan) fun h=>?_))
  rw[show w64 ((1:Int)+1)=2 by decide]
  refine Ev.round 1 (L:=fun φ n=>Z2.l0 (mkR (run E (φ 0))) (φ 0) n 0 [a,b] ([a,b].length:Int) 2) ?_ (fun _ _ _=>rfl)
  simp only[Z2.l0_succ _ qag]
  refine qaL (by simp) (qaj ?_)
  have:b=0:=by simpa using h
  rw[this]
theorem qaV(a b:Sim)(ha:Sm yL a):Ret E n_Z22 [dL a,dL b] ⟨o_Z22,(qdF a b,())⟩:=by
 refine qao ?_
 simp only[run_Z22,Z22.ev]
 exact qac (qhq _ _) (qac (qeJ a b ha) (qac (qkZ _ _) qan))
theorem qdR(a b:Sim)(ha:Sm yL a):Ret E n_Z95 [dL a,dL b] ⟨o_Z95,(pb (qdF a b<0),())⟩:=by
  have ha1:a.length≤1048576:=ha.1
  refine qao ?_
  simp only[run_Z95,Z95.ev]
  refine qcm (fun h=>qaj ?_) fun h=>?_
  · have h:(a.length:Int)≠b.length:=by simpa using h
    rw[qcI,qaC (show(a.length:Int)<b.length↔qdF a b<0 by rw[qg4];omega)]
  · have h : a.length = b.length := by have : (a.length : Int) = b.length := by simpa using h
                                       omega
    refine Ev.start (p:=fun φ n=>Z95.l0 (mkR (run E (φ 0))) (φ 0) n a b 0=_) 1 ?_ (fun _ _ _ h=>h)
    refine(qeK 1 (σ:=Nat) (L:=fun φ n k=>Z95.l0 (mkR (run E (φ 0))) (φ 0) n a b (k:Int)) (fun _ _ _ _=>rfl) (fun k=>k≤a.length) (fun k=>some ⟨o_Z95,(pb (qc9 (a.drop k) (b.drop k)<0),())⟩) (fun k=>a.length-k) (fun k hk ih=>?_) 0 (Nat.zero_le _)).to ?_
    · simp only[Z95.l0_succ _ qag]
      refine qda (fun h1=>?_) fun h1=>?_
      · have hka:k<a.length:=by omega
        have hkb:k<b.length:=by omega
        have e:=qfv hka hkb
        refine qaf (qah hka) (qaf (qah hkb) (qcm (fun h3=>?_) fun h3=>?_))
        · refine qaf (qah hka) (qaf (qah hkb) (qaj ?_))
          have h3:a[k]≠b[k]:=by simpa using h3
          rw[if_pos (by rw[Ne,qcL];exact h3)] at e
          rw[e,qcI,qaC qjq]
        · have h3:a[k]=b[k]:=by simpa using h3
          rw[if_neg (by rw[Classical.not_not,qcL];exact h3)] at e
          rw[qai (by omega),e]
          exact ih (k+1) (by show k+1≤_;omega) (by show a.length-(k+1)<_;omega)
      · refine qaj ?_
        have hk:k≤a.length:=hk
        have e:k=a.length:=by omega
        subst e
        rw[List.drop_of_length_le (l:=a) (by omega),List.drop_of_length_le (l:=b) (by omega),qc9,qap (by omega)]
    · refine congrArg (fun b:Bool=>some (⟨o_Z95,(b,())⟩:Dv)) (qaC ?_)
      simp only[List.drop_zero];rw[qg4];omega
end VeT
open Go Go.Proofs Ve
namespace VeT
theorem qal{α:Type}{s:List α}{k:Nat}{d:α}(h:k<s.length):s.getD k d=s[k]:=by simp[List.getD_eq_getElem?_getD,h]
theorem qbh{t:Ty}{s:List t.T}(h:Sm (.sl t) s){k:Nat}(hk:k<s.length):Sm t s[k]:=h.2 _ (List.getElem_mem hk)
theorem qlK{s:Sim}(h:s.length≤1048576):Sm yL s:=⟨h,fun _ _=>trivial⟩
theorem qi1(s:Sim)(hs:s.length≤1048576):Ret E n_Z87 [dL s] ⟨o_Z87,(s,())⟩:=by
 refine qao ?_
 simp only[run_Z87,Z87.ev]
 exact qaA (by simp;omega) (qaj rfl)
theorem qdC(s:Sim)(k:Nat)(hk:k<s.length)(hs:s.length≤1048576):Ret E n_Z96 [dL s,dI (k:Int)] ⟨o_Z96,(s.eraseIdx k,())⟩:=by
 refine qao ?_
 simp only[run_Z96,Z96.ev]
 rw[qai (by omega)]
 simp only[Int.toNat_natCast]
 refine qaA (by simp;omega) (qac (qi1 _ (by simp;omega)) (qaA (by simp;omega) (qaA (by simp;omega) (qaj ?_))))
 rw[List.eraseIdx_eq_take_drop_succ]
theorem qeC(a b:Sim)(ha:a.length≤1048576):Ret E n_Z89 [dL a,dL b] ⟨o_Z89,(pb (a=b),())⟩:=by
 refine qao ?_
 simp only[run_Z89,Z89.ev]
 refine qcm (fun h=>qaj ?_) fun h=>?_
 ·have h:(a.length:Int)≠b.length:=by simpa using h
  rw[qap fun e=>h (by rw[e])]
 ·have h:(a.length:Int)=b.length:=by simpa using h
  refine Ev.start (p:=fun φ n=>Z89.l0 (mkR (run E (φ 0))) (φ 0) n a b 0=_) 1 ?_ (fun _ _ _ h=>h)
  refine(qcF 1 (L:=fun φ n k=>Z89.l0 (mkR (run E (φ 0))) (φ 0) n a b k) (len:=a.length) 0 (by omega) (fun j=>a.getD j 0=b.getD j 0) (fun b=>some ⟨o_Z89,(b,())⟩) (fun _ _ _ _=>rfl) (fun k h1 h2 hP _=>?_) (fun k r h1 h2 hP _ ih=>?_) (fun _=>?_)).to ?_
  ·simp only[Z89.l0_succ _ qag]
   have hb:k<b.length:=by omega
   rw[qal h2,qal hb] at hP
   exact qaF (decide_eq_true (by omega)) (qaf (qah h2) (qaf (qah hb) (qaF (by simpa using hP) qan)))
  ·simp only[Z89.l0_succ _ qag]
   have hb:k<b.length:=by omega
   rw[qal h2,qal hb] at hP
   refine qaF (decide_eq_true (by omega)) (qaf (qah h2) (qaf (qah hb) (qaL (by simpa using hP) ?_)))
   rw[qai (by omega)];exact ih
  ·simp only[Z89.l0_succ _ qag]
   exact qaL (decide_eq_false (by omega)) qan
  ·refine congrArg (fun b:Bool=>some (⟨o_Z89,(b,())⟩:Dv)) (qaC ⟨fun hh=>List.ext_getElem (by omega) fun j h1 h2=>?_,fun hh j _ _=>by rw[hh]⟩)
   have:=hh j (by omega) h1
   rwa [qal h1,qal h2] at this
noncomputable def qcO(c:List Sim)(s:Sim):Int:=qh6 (fun x=>pb (x=s)) c
theorem qbI{c:List Sim}{s:Sim}:0≤qcO c s↔s∈c:=by
 unfold qcO
 rw[qa9]
 simp only[qaz]
 exact⟨fun⟨x,h,e⟩=>e ▸ h,fun h=>⟨s,h,rfl⟩⟩
theorem qdA(c:Cpx)(s:Sim)(hc:Sm yK c.1):Ret E n_Z99 [dC c,dL s] ⟨o_Z99,(qcO c.1 s,())⟩:=by
  have hc1:c.1.length≤1048576:=hc.1
  obtain⟨o,h1,h2,h3⟩:=qby 1 (L:=fun φ n k=>Z99.l0 (mkR (run E (φ 0))) (φ 0) n c s k) (len:=c.1.length) (fun k=>∃ h:k<c.1.length,pb (c.1[k]=s)=true) (fun o=>some ⟨o_Z99,(o2i o,())⟩) (fun _ _ _ _=>rfl) (fun k hk hP=>by
      obtain⟨_,hP⟩:=hP
      simp only[Z99.l0_succ _ qag]
      refine qaF (decide_eq_true (by omega)) (qaf (qah hk) (qac (qeC _ _ (qbh hc hk).1) (qaF hP qan)))) (fun k q hk hP ih=>by
      simp only[Z99.l0_succ _ qag]
      refine qaF (decide_eq_true (by omega)) (qaf (qah hk) (qac (qeC _ _ (qbh hc hk).1) (qaL (Bool.eq_false_iff.2 fun h=>hP ⟨hk,h⟩) ?_)))
      rw[qai (by omega)];exact ih) (by
      simp only[Z99.l0_succ _ qag]
      exact qaL (decide_eq_false (by omega)) qan)
  rw[qcT (p:=fun x=>pb (x=s)) h1 h2] at h3
  refine qao ?_
  simp only[run_Z99,Z99.ev]
  exact Ev.start (p:=fun φ n=>Z99.l0 (mkR (run E (φ 0))) (φ 0) n c s 0=_) 1 h3 (fun _ _ _ h=>h)
theorem qkd(n:Nat)(args:List Dv):run E (n+1) n_Z73 args=qi5 yI (mkR (run E n)) args:=rfl
theorem qkz(s:Sim)(n:Int)(h0:0≤n)(h1:n≤1048576)(hs:s.length≤1048576):Ret E n_Z73 [dL s,dI n] ⟨o_Z73,(s,())⟩:=by
 refine qao ?_
 simp only[qkd]
 refine qaj ((if_pos (show 0≤n∧((List.length s:Int)+n)*(64*(Ty.size (Ty.int IntKind.i64):Int))≤70368744177664 from⟨h0,?_⟩)).trans rfl)
 have:(Ty.size (Ty.int IntKind.i64))=1:=rfl
 rw[this];omega
theorem qi6(ll:List Sim)(hl:ll.length≤1048576)(hf:ll.flatten.length≤1048576):Ret E n_Z63 [dLL ll] ⟨o_Z63,(ll.flatten,())⟩:=by
 have hle:∀ k,(ll.take k).flatten.length≤ll.flatten.length:=fun k=>by
  have:=congrArg List.length (congrArg List.flatten (List.take_append_drop k ll))
  rw[List.flatten_append,List.length_append] at this;omega
 have hst:∀ k (h:k<ll.length),(ll.take (k+1)).flatten=(ll.take k).flatten++ll[k]:=fun k h=>by
  rw[List.take_succ_eq_append_getElem h,List.flatten_append];simp
 refine qao ?_
 simp only[run_Z63,Z63.ev]
 refine Ev.start (p:=fun φ n=>Z63.l0 (mkR (run E (φ 0))) (φ 0) n ll 0 ll (ll.length:Int) 0=_) 1 ?_ (fun _ _ _ h=>h)
 refine qav 1 (L:=fun φ n k a=>Z63.l0 (mkR (run E (φ 0))) (φ 0) n ll a ll (ll.length:Int) k) (len:=ll.length) (fun k=>(((ll.take k).flatten.length:Nat):Int)) (fun _ _ _ _ _=>rfl) (fun k r hk ih=>?_) ?_
 ·simp only[Z63.l0_succ _ qag]
  have:=hle (k+1)
  have e:=hst k hk
  have e2:w64 (((ll.take k).flatten.length:Nat)+(List.length (ll[k]):Int))=(((ll.take (k+1)).flatten.length:Nat):Int):=by
   rw[qaq (by omega) (by rw[e,List.length_append] at this;omega),e,List.length_append];omega
  refine qaF (decide_eq_true (by omega)) (qaf (qah hk) ?_)
  show Ev fun φ=>(bif decide (w64 (((ll.take k).flatten.length:Nat)+(List.length (ll[k]):Int))<0) then none else Z63.l0 (mkR (run E (φ 0))) (φ 0) (φ 1) ll (w64 (((ll.take k).flatten.length:Nat)+(List.length (ll[k]):Int))) ll (ll.length:Int) (w64 ((k:Int)+1)))=r
  rw[e2,qai (by omega)]
  exact qaL (decide_eq_false (by omega)) ih
 ·simp only[Z63.l0_succ _ qag]
  refine qaL (decide_eq_false (by omega)) (qac (qkz [] _ (by omega) (by have:=hle ll.length;omega) (by simp)) ?_)
  refine Ev.start (p:=fun φ n=>Z63.l1 (mkR (run E (φ 0))) (φ 0) n ll (ll.length:Int) 0 []=_) 2 ?_ (fun _ _ _ h=>h)
  refine qav 2 (L:=fun φ n k a=>Z63.l1 (mkR (run E (φ 0))) (φ 0) n ll (ll.length:Int) k a) (len:=ll.length) (fun k=>(ll.take k).flatten) (fun _ _ _ _ _=>rfl) (fun k r hk ih=>?_) ?_
  ·simp only[Z63.l1_succ _ qag]
   have:=hle (k+1)
   have e:=hst k hk
   rw[e] at ih this
   rw[List.length_append] at this
   refine qaF (decide_eq_true (by omega)) (qaf (qah hk) (qaA (decide_eq_true (by show(_+List.length ll[k])*8≤_;omega)) ?_))
   rw[qai (by omega)]
   exact ih
  ·simp only[Z63.l1_succ _ qag]
   refine qaL (decide_eq_false (by omega)) (qaj ?_)
   rw[List.take_of_length_le (Nat.le_refl _)]
def qbB(s:Sim):List Sim:=if 1<s.length then(List.range s.length).map (s.eraseIdx ·) else []
theorem qcS{s f:Sim}:f∈qbB s↔1<s.length∧∃ i,i<s.length∧f=s.eraseIdx i:=by
 unfold qbB
 split
 ·rename_i h
  simp only[List.mem_map,List.mem_range,h,true_and]
  exact⟨fun⟨i,h1,h2⟩=>⟨i,h1,h2.symm⟩,fun⟨i,h1,h2⟩=>⟨i,h1,h2.symm⟩⟩
 ·rename_i h
  simp[h]
theorem qjE{s f:Sim}(h:f∈qbB s):f.length+1=s.length:=by
 obtain⟨h1,i,h2,rfl⟩:=qcS.1 h
 rw[List.length_eraseIdx,if_pos h2];omega
theorem qey{s:Sim}:(qbB s).length≤s.length:=by
 unfold qbB;split<;>simp
theorem qds(s:Sim)(hs:s.length≤1048576):Ret E n_Z24 [dL s] ⟨o_Z24,(qbB s,())⟩:=by
 refine qao ?_
 simp only[run_Z24,Z24.ev]
 refine Ev.start (p:=fun φ n=>Z24.l0 (mkR (run E (φ 0))) (φ 0) n s (s.length:Int) 0 []=_) 1 ?_ (fun _ _ _ h=>h)
 by_cases h1:1<s.length
 ·refine qav 1 (L:=fun φ n k a=>Z24.l0 (mkR (run E (φ 0))) (φ 0) n s (s.length:Int) k a) (len:=s.length) (fun k=>(List.range k).map (s.eraseIdx ·)) (fun _ _ _ _ _=>rfl) (fun k r hk ih=>?_) ?_
  ·simp only[Z24.l0_succ _ qag]
   rw[List.range_succ,List.map_append] at ih
   rw[qai (by omega)]
   simp only[Int.toNat_natCast]
   refine qaF (decide_eq_true (by omega)) (qaF (decide_eq_true (by omega)) (qaA (by simp;omega) (qaA (by simp;omega) (qac (qi6 _ (by simp) (by simp;omega)) (qaA (by simp;omega) ?_)))))
   rw[show [s.take k,s.drop (k+1)].flatten=s.eraseIdx k by simp[List.eraseIdx_eq_take_drop_succ]]
   exact ih
  ·simp only[Z24.l0_succ _ qag]
   exact qaL (decide_eq_false (by omega)) (qaj (by rw[qbB,if_pos h1]))
 ·refine qav 1 (L:=fun φ n k a=>Z24.l0 (mkR (run E (φ 0))) (φ 0) n s (s.length:Int) k a) (len:=s.length) (fun k=>[]) (fun _ _ _ _ _=>rfl) (fun k r hk ih=>?_) ?_
  ·simp only[Z24.l0_succ _ qag]
   rw[qai (by omega)]
   exact qaF (decide_eq_true (by omega)) (qaL (decide_eq_false (by omega)) ih)
  ·simp only[Z24.l0_succ _ qag]
   exact qaL (decide_eq_false (by omega)) (qaj (by rw[qbB,if_neg h1]))
def Srt(c:List Sim):Prop:=∀ i j (h:j<c.length) (hij:i<j),qdF c[i] c[j]<0
theorem qkG{c:List Sim}(h:∀ k,1≤k→k<c.length→qdF (c.getD (k-1) []) (c.getD k [])<0):Srt c:=by
 intro i j
 induction j with
 | zero=>intro _ h;omega
 | succ j ih =>
  intro hj hij
  have:=h (j+1) (by omega) hj
  rw[Nat.add_sub_cancel,qal (by omega),qal hj] at this
  by_cases e:i=j
  ·subst e;exact this
  ·exact qf3 (ih (by omega) (by omega)) this
theorem Srt.take{c:List Sim}(h:Srt c)(k:Nat):Srt (c.take k):=by
 intro i j hj hij
 rw[List.getElem_take,List.getElem_take]
 exact h i j (by rw[List.length_take] at hj;omega) hij
def bs(c:List Sim)(s:Sim):Nat:=c.findIdx (fun x=>!decide (qdF x s<0))
theorem qlI{c:List Sim}{s:Sim}:bs c s≤c.length:=List.findIdx_le_length
theorem qj3{c:List Sim}{s:Sim}(hc:Srt c){t:Nat}(h:t<c.length):t<bs c s↔qdF c[t] s<0:=by
 constructor
 ·intro ht
  have:=List.not_of_lt_findIdx ht
  simpa using this
 ·intro ht
  refine Classical.byContradiction fun hn=>?_
  have hb:bs c s<c.length:=by omega
  have h1:qdF c[bs c s] s<0:=by
   by_cases e:bs c s=t
   ·simp only[e];exact ht
   ·exact qf3 (hc _ _ h (by omega)) ht
  have:=List.findIdx_getElem (w:=hb)
  simp only[Bool.not_eq_true',decide_eq_false_iff_not] at this
  exact this h1
theorem qjG{c:List Sim}{s:Sim}(hc:Srt c):qcO c s=if h:bs c s<c.length∧c.getD (bs c s) []=s then(bs c s:Int) else -1:=by
 have e:c.findIdx? (fun x=>pb (x=s))=if bs c s<c.length∧c.getD (bs c s) []=s then some (bs c s) else none:=by
  split
  ·rename_i h
   obtain⟨h1,h2⟩:=h
   rw[List.findIdx?_eq_some_iff_getElem]
   rw[qal h1] at h2
   refine⟨h1,qaE h2,fun j hj=>?_⟩
   rw[qaz]
   intro he
   have:=(qj3 (s:=s) hc (show j<c.length by omega)).1 hj
   rw[he,qfa.2 rfl] at this
   omega
  ·rename_i h
   rw[List.findIdx?_eq_none_iff]
   intro x hx
   rw[qa5]
   rintro rfl
   obtain⟨j,hj,rfl⟩:=List.mem_iff_getElem.1 hx
   have h0:¬ j<bs c c[j]:=fun hlt=>by
    have:=(qj3 hc hj).1 hlt
    rw[qfa.2 rfl] at this;omega
   by_cases hjb:bs c c[j]=j
   ·exact h ⟨by omega,by rw[hjb,qal hj]⟩
   ·have hb:bs c c[j]<c.length:=by omega
    have:=(qj3 (s:=c[j]) hc hb).2 (hc _ _ hj (by omega))
    omega
 unfold qcO qh6
 rw[e]
 split<;>rfl
theorem qeL(c:List Sim)(s:Sim)(hc:Sm yK c)(hs:Srt c):Ret E n_Z60 [dLL c,dL s,⟨.fn n_Z22 .nil,()⟩] ⟨o_Z60,((bs c s:Int),pb (bs c s<c.length∧c.getD (bs c s) []=s),())⟩:=by
 have hc1:c.length≤1048576:=hc.1
 refine qao ?_
 simp only[run_Z60,Z61.ev]
 refine Ev.start (p:=fun φ n=>Z61.l0 (mkR (run E (φ 0))) (φ 0) n c s (c.length:Int) 0 (c.length:Int)=_) 1 ?_ (fun _ _ _ h=>h)
 refine qeK 1 (σ:=Nat×Nat) (L:=fun φ n st=>Z61.l0 (mkR (run E (φ 0))) (φ 0) n c s (c.length:Int) (st.1:Int) (st.2:Int)) (fun _ _ _ _=>rfl) (fun st=>st.1≤bs c s∧bs c s≤st.2∧st.2≤c.length) (fun _=>_) (fun st=>st.2-st.1) (fun st hi ih=>?_) (0,c.length) ⟨Nat.zero_le _,qlI,Nat.le_refl _⟩
 obtain⟨i,j⟩:=st
 obtain⟨h1,h2,h3⟩:=hi
 simp only at h1 h2 h3 ih
 simp only[Z61.l0_succ _ qag]
 rw[qlO (by omega)]
 refine qda (fun hij=>?_) fun hij=>?_
 ·have hh:(i+j) / 2<c.length:=by omega
  refine qaA (by decide) (qaf (qah hh) (qac (qaV _ _ (qbh hc hh)) (qda (fun hlt=>?_) fun hlt=>?_)))
  ·rw[qai (by omega)]
   have:=(qj3 hs hh).2 hlt
   exact ih ((i+j) / 2+1,j) ⟨this,h2,h3⟩ (by simp only;omega)
  ·have:¬ (i+j) / 2<bs c s:=fun h=>hlt ((qj3 hs hh).1 h)
   exact ih (i,(i+j) / 2) ⟨h1,by simp only;omega,by simp only;omega⟩ (by simp only;omega)
 ·have e:i=bs c s:=by omega
  subst e
  refine qda (fun hl=>?_) fun hl=>qaj ?_
  ·have hh:bs c s<c.length:=by omega
   refine qaf (qah hh) (qac (qaV _ _ (qbh hc hh)) (qaj ?_))
   have:(qdF c[bs c s] s==0)=pb (bs c s<c.length∧c.getD (bs c s) []=s):=qfU (by
    rw[qal hh,beq_iff_eq,qfa];exact⟨fun h=>⟨hh,h⟩,fun h=>h.2⟩)
   rw[this]
  ·rw[qap fun h=>hl (by omega)]
theorem qfG(c:List Sim)(s:Sim)(hc:Sm yK c)(hs:Srt c):Ret E n_Z26 [dLL c,dL s] ⟨o_Z26,(qcO c s,())⟩:=by
 refine qao ?_
 simp only[run_Z26,Z26.ev]
 refine qac (qeL c s hc hs) (qcm (fun h=>qaj ?_) fun h=>qaj ?_)
 ·rw[qjG hs,dif_neg (qa5.1 (by simpa using h))]
 ·rw[qjG hs,dif_pos (qaz.1 (by simpa using h))]
end VeT
open Go Go.Proofs Ve
namespace VeT
def VC(c:List Sim):Prop:=c.length≤48∧(∀ k,k<c.length→Vx (c.getD k []))∧(∀ k,1≤k→k<c.length→qdF (c.getD (k-1) []) (c.getD k [])<0)∧∀ k,k<c.length→∀ f∈qbB (c.getD k []),f∈c
theorem VC.srt{c:List Sim}(h:VC c):Srt c:=qkG h.2.2.1
def qh3(c:List Sim)(k:Nat):Prop:=(Vx (c.getD k [])∧(1≤k→qdF (c.getD (k-1) []) (c.getD k [])<0))∧∀ f∈qbB (c.getD k []),f∈c.take k
theorem qld{c:List Sim}:((∀ k,0≤k→k<c.length→qh3 c k)∧c.length≤48)↔VC c:=by
 constructor
 ·rintro⟨h,hl⟩
  exact⟨hl,fun k hk=>(h k (by omega) hk).1.1,fun k h1 hk=>(h k (by omega) hk).1.2 h1,fun k hk f hf=>List.mem_of_mem_take ((h k (by omega) hk).2 f hf)⟩
 ·intro h
  have hs:=h.srt
  obtain⟨hl,h1,h2,h3⟩:=h
  refine⟨fun k _ hk=>⟨⟨h1 k hk,fun hk1=>h2 k hk1 hk⟩,fun f hf=>?_⟩,hl⟩
  have hm:=h3 k hk f hf
  have hlen:=qjE hf
  rw[qal hk] at hlen
  obtain⟨i,hi,rfl⟩:=List.mem_iff_getElem.1 hm
  have hlt:qdF c[i] c[k]<0:=qg4.2 (.inl (by omega))
  have hik:i<k:=Classical.byContradiction fun hn=>by
   by_cases e:i=k
   ·subst e;omega
   ·have:=hs k i hi (by omega)
    rw[qke] at this;omega
  exact List.mem_iff_getElem.2 ⟨i,by rw[List.length_take];omega,by rw[List.getElem_take]⟩
theorem qk7{t:Ty}{s:List t.T}(h:Sm (.sl t) s)(k:Nat):Sm (.sl t) (s.take k):=⟨by have h1:s.length≤1048576:=h.1;show(s.take k).length≤_;rw[List.length_take];omega,fun x hx=>h.2 x (List.mem_of_mem_take hx)⟩
theorem qdO(c:List Sim)(f:Sim)(k:Nat)(hk:k≤c.length)(hc:Sm yK c)(hs:Srt (c.take k)) :
  Ret E n_Z11 [dL f,dC (c,()),⟨.ptr (.cons yI .nil),((k:Int),())⟩] ⟨o_Z11,(pb (¬ f∈c.take k),())⟩:=by
 refine qao ?_
 simp only[run_Z11,Z11.ev]
 simp only[Int.toNat_natCast]
 refine qaA (by simp;omega) (qac (qfG _ f (qk7 hc k) hs) (qaj ?_))
 simp only[qcI,qaC (show qcO (c.take k) f<0↔¬ f∈c.take k by rw[← qbI];omega)]
theorem qcC(c:List Sim)(hc:Sm yK c):Ret E n_Z10 [dLL c] ⟨o_Z10,(pb (VC c),())⟩:=by
  have hc1:c.length≤1048576:=hc.1
  refine qao ?_
  simp only[run_Z10,Z10.ev]
  refine Ev.start (p:=fun φ n=>Z10.l0 (mkR (run E (φ 0))) (φ 0) n c (c.length:Int) 0 c=_) 1 ?_ (fun _ _ _ h=>h)
  have key:∀(n:Nat) (k:Nat) (hk:k<c.length) (hpre:∀ j,0≤j→j<k→qh3 c j),Srt (c.take k):=fun n k hk hpre=>qkG fun j h1 h2=>by
    rw[List.length_take] at h2
    have:=(hpre j (by omega) (by omega)).1.2 h1
    rw[qal (by omega),qal (by omega)] at this
    rw[qal (by rw[List.length_take];omega),qal (by rw[List.length_take];omega),List.getElem_take,List.getElem_take]
    exact this
  have hcon:∀(k:Nat) (hk:k<c.length) (hpre:∀ j,0≤j→j<k→qh3 c j),Ret E n_Z64 [dLL (qbB c[k]),⟨.fn n_Z11 (.cons (.ptr yC) (.cons (.ptr (.cons yI .nil)) .nil)),((c,()),((k:Int),()),())⟩] ⟨o_Z64,(pb (∃ x∈qbB c[k],pb (¬ x∈c.take k)=true),())⟩:=fun k hk hpre =>
    qaJ (qbB c[k]) ((c,()),((k:Int),()),()) _ (Nat.le_trans qey (qbh hc hk).1) fun x hx=>qdO c x k (by omega) hc (key 0 k hk hpre)
  refine(qcF 1 (L:=fun φ n k=>Z10.l0 (mkR (run E (φ 0))) (φ 0) n c (c.length:Int) k c) (len:=c.length) 0 (by omega) (qh3 c) (fun b=>some ⟨o_Z10,(b&&decide ((c.length:Int)≤48),())⟩) (fun _ _ _ _=>rfl) (fun k h1 h2 hP hpre=>?_) (fun k r h1 h2 hP hpre ih=>?_) (fun _=>?_)).to ?_
  · simp only[Z10.l0_succ _ qag]
    refine qaF (decide_eq_true (by omega)) (qaf (qah h2) (qac (qcB _ (qbh hc h2)) ?_))
    refine qcm (fun hv=>?_) fun hv=>?_
    · simp only[Z10.j1_eq _ qag,cond_true];(first | exact qan | exact Ev.of fun _=>trivial)
    · have hv:Vx c[k]:=qaz.1 (by simpa using hv)
      have last:(1≤k→qdF (c.getD (k-1) []) (c.getD k [])<0)→Ev fun φ=>Z10.j1 (mkR (run E (φ 0))) (φ 0) (φ 1) c[k] c (c.length:Int) (k:Int) false c (k:Int)=some ⟨o_Z10,(false,())⟩:=fun hcm=>by
        simp only[Z10.j1_eq _ qag,cond_false]
        refine qac (qds _ (qbh hc h2).1) (qac (hcon k h2 hpre) (qaF ?_ qan))
        refine qaE (Classical.byContradiction fun hn=>hP ⟨⟨by rw[qal h2];exact hv,hcm⟩,fun f hf=>Classical.byContradiction fun hnf=>hn ⟨f,by rw[qal h2] at hf;exact hf,qaE hnf⟩⟩)
      refine qda (fun hk=>?_) fun hk=>?_
      · rw[qaq (by omega) (by omega),show((k:Int)-1)=((k-1:Nat):Int) by omega]
        have hk1:k-1<c.length:=by omega
        refine qaf (qah hk1) (qac (qaV _ _ (qbh hc hk1)) ?_)
        by_cases hcm:qdF c[k-1] c[k]<0
        · simp only[show decide (qdF c[k-1] c[k]≥0)=false from decide_eq_false (by omega)]
          exact last fun _=>by rw[qal hk1,qal h2];exact hcm
        · simp only[show decide (qdF c[k-1] c[k]≥0)=true from decide_eq_true (by omega),Z10.j1_eq _ qag,cond_true]
          (first | exact qan | exact Ev.of fun _=>trivial)
      · exact last fun h=>absurd h (by omega)
  · simp only[Z10.l0_succ _ qag]
    have hP':=hP
    obtain⟨⟨hv,hcm⟩,hfc⟩:=hP'
    rw[qal h2] at hv hfc
    refine qaF (decide_eq_true (by omega)) (qaf (qah h2) (qac (qcB _ (qbh hc h2)) (qaL (by rw[qaE hv];rfl) ?_)))
    have last:Ev fun φ=>Z10.j1 (mkR (run E (φ 0))) (φ 0) (φ 1) c[k] c (c.length:Int) (k:Int) false c (k:Int)=r:=by
      simp only[Z10.j1_eq _ qag,cond_false]
      refine qac (qds _ (qbh hc h2).1) (qac (hcon k h2 hpre) (qaL ?_ ?_))
      · exact qap fun⟨x,hx,hn⟩=>qaz.1 hn (hfc x hx)
      · rw[qai (by omega)];exact ih
    refine qda (fun hk=>?_) fun hk=>last
    rw[qaq (by omega) (by omega),show((k:Int)-1)=((k-1:Nat):Int) by omega]
    have hk1:k-1<c.length:=by omega
    have hcm:=hcm (by omega)
    rw[qal hk1,qal h2] at hcm
    refine qaf (qah hk1) (qac (qaV _ _ (qbh hc hk1)) ?_)
    simp only[show decide (qdF c[k-1] c[k]≥0)=false from decide_eq_false (by omega)]
    exact last
  · simp only[Z10.l0_succ _ qag]
    exact qaL (decide_eq_false (by omega)) (qaj (by rw[Bool.true_and]))
  · have:(pb (∀ j,0≤j→j<c.length→qh3 c j)&&decide ((c.length:Int)≤48))=pb (VC c):=qfU (by
      rw[Bool.and_eq_true,qaz,decide_eq_true_iff,← qld]
      exact⟨fun h=>⟨h.1,by omega⟩,fun h=>⟨h.1,by omega⟩⟩)
    rw[this]
def qkI(c:List Sim)(k:Nat):Prop:=(Vx (c.getD k [])∧(1≤k→qdF (c.getD (k-1) []) (c.getD k [])<0))∧∀ f∈qbB (c.getD k []),f∈c
theorem qjU(c:Cpx)(hc:Sm yK c.1):Ret E n_Z101 [dC c] ⟨o_Z101,(pb (VC c.1),())⟩:=by
  have hc1:c.1.length≤1048576:=hc.1
  refine qao ?_
  simp only[run_Z101,Z101.ev]
  refine qda (fun h=>qaj ?_) fun h48=>?_
  · rw[qap fun hv=>by have:=hv.1;omega]
  refine Ev.start (p:=fun φ n=>Z101.l0 (mkR (run E (φ 0))) (φ 0) n c 0=_) 1 ?_ (fun _ _ _ h=>h)
  -- the inner loop
  have inner:∀(k:Nat) (h2:k<c.1.length) (r:Option Dv),((∀ f∈qbB c.1[k],f∈c.1)→Ev fun φ=>Z101.l0 (mkR (run E (φ 0))) (φ 0) (φ 1) c ((k+1:Nat):Int)=r)→(¬ (∀ f∈qbB c.1[k],f∈c.1)→r=some ⟨o_Z101,(false,())⟩)→Ev fun φ=>Z101.l2 (mkR (run E (φ 0))) (φ 0) (φ 1) (φ 0) c (k:Int) c.1[k] 0=r:=fun k h2 r hgo hstop=>by
    have hks:(c.1[k]).length≤1048576:=(qbh hc h2).1
    refine Ev.start (p:=fun φ n=>Z101.l2 (mkR (run E (φ 0))) (φ 0) (φ 1) n c (k:Int) c.1[k] 0=_) 2 ?_ (fun _ _ _ h=>h)
    by_cases hlen:1<(c.1[k]).length
    · obtain⟨t,f⟩:=qgE 2 (L:=fun φ n i=>Z101.l2 (mkR (run E (φ 0))) (φ 0) (φ 1) n c (k:Int) c.1[k] i) (len:=(c.1[k]).length) 0 (by omega) (fun i=>(c.1[k]).eraseIdx i∈c.1) (rt:=r) (rf:=some ⟨o_Z101,(false,())⟩) (fun _ _ _ _=>rfl) (fun i _ hi hP _=>by
        simp only[Z101.l2_succ _ qag]
        refine qaF (decide_eq_true (by omega)) ?_
        simp only[show decide (((c.1[k]).length:Int)>1)=true from decide_eq_true (by omega),Z101.j3_eq _ qag,cond_true]
        refine qac (qdC _ i hi hks) (qac (qdA c _ hc) (qaF (decide_eq_true ?_) qan))
        have hq:=mt (qbI (c:=c.1) (s:=(c.1[k]).eraseIdx i)).1 hP;simp only;exact Int.not_le.1 hq) (fun i q _ hi hP _ ih=>by
        simp only[Z101.l2_succ _ qag]
        refine qaF (decide_eq_true (by omega)) ?_
        simp only[show decide (((c.1[k]).length:Int)>1)=true from decide_eq_true (by omega),Z101.j3_eq _ qag,cond_true]
        refine qac (qdC _ i hi hks) (qac (qdA c _ hc) (qaL (decide_eq_false ?_) ?_))
        · have hq:=(qbI (c:=c.1) (s:=(c.1[k]).eraseIdx i)).2 hP;simp only;exact Int.not_lt.2 hq
        · rw[qai (by omega)];exact ih) (fun hall=>by
        simp only[Z101.l2_succ _ qag]
        refine qaL (decide_eq_false (by omega)) ?_
        simp only[Z101.j3_eq _ qag,cond_false]
        rw[qai (by omega)]
        exact hgo fun f hf=>by
          obtain⟨_,i,hi,rfl⟩:=qcS.1 hf
          exact hall i (by omega) hi)
      by_cases hall:∀ i,0≤i→i<(c.1[k]).length→(c.1[k]).eraseIdx i∈c.1
      · exact t hall
      · rw[hstop fun hf=>hall fun i _ hi=>hf _ (qcS.2 ⟨hlen,i,hi,rfl⟩)]
        exact f hall
    · refine Ev.round 2 (L:=fun φ n=>Z101.l2 (mkR (run E (φ 0))) (φ 0) (φ 1) n c (k:Int) c.1[k] 0) ?_ (fun _ _ _=>rfl)
      have hgo:=hgo fun f hf=>absurd (qcS.1 hf).1 hlen
      have hj:Ev fun φ=>Z101.j3 (mkR (run E (φ 0))) (φ 0) (φ 1) (φ 2) c (k:Int) c.1[k] 0 false=r:=by
        simp only[Z101.j3_eq _ qag,cond_false]
        rw[qai (by omega)];exact hgo
      simp only[Z101.l2_succ _ qag]
      refine qda (fun _=>?_) fun _=>hj
      simp only[show decide (((c.1[k]).length:Int)>1)=false from decide_eq_false (by omega)]
      exact hj
  refine(qcF 1 (L:=fun φ n k=>Z101.l0 (mkR (run E (φ 0))) (φ 0) n c k) (len:=c.1.length) 0 (by omega) (qkI c.1) (fun b=>some ⟨o_Z101,(b,())⟩) (fun _ _ _ _=>rfl) (fun k h1 h2 hP hpre=>?_) (fun k r h1 h2 hP hpre ih=>?_) (fun _=>?_)).to ?_
  · simp only[Z101.l0_succ _ qag]
    refine qaF (decide_eq_true (by omega)) (qaf (qah h2) (qac (qdl _ (qbh hc h2)) ?_))
    refine qcm (fun hv=>?_) fun hv=>?_
    · simp only[Z101.j1_eq _ qag,cond_true];(first | exact qan | exact Ev.of fun _=>trivial)
    · have hv:Vx c.1[k]:=qaz.1 (by simpa using hv)
      have last:(1≤k→qdF (c.1.getD (k-1) []) (c.1.getD k [])<0)→Ev fun φ=>Z101.j1 (mkR (run E (φ 0))) (φ 0) (φ 1) c (k:Int) c.1[k] false=some ⟨o_Z101,(false,())⟩:=fun hcm=>by
        simp only[Z101.j1_eq _ qag,cond_false]
        refine inner k h2 _ (fun hf=>absurd ⟨⟨by rw[qal h2];exact hv,hcm⟩,by rw[qal h2];exact hf⟩ hP) fun _=>rfl
      refine qda (fun hk=>?_) fun hk=>?_
      · rw[qaq (by omega) (by omega),show((k:Int)-1)=((k-1:Nat):Int) by omega]
        have hk1:k-1<c.1.length:=by omega
        refine qaf (qah hk1) (qac (qdR _ _ (qbh hc hk1)) ?_)
        by_cases hcm:qdF c.1[k-1] c.1[k]<0
        · simp only[qaE hcm]
          exact last fun _=>by rw[qal hk1,qal h2];exact hcm
        · simp only[qap hcm,Z101.j1_eq _ qag,cond_true,Bool.not_false]
          (first | exact qan | exact Ev.of fun _=>trivial)
      · exact last fun h=>absurd h (by omega)
  · simp only[Z101.l0_succ _ qag]
    obtain⟨⟨hv,hcm⟩,hfc⟩:=hP
    rw[qal h2] at hv hfc
    refine qaF (decide_eq_true (by omega)) (qaf (qah h2) (qac (qdl _ (qbh hc h2)) (qaL (by rw[qaE hv];rfl) ?_)))
    have last:Ev fun φ=>Z101.j1 (mkR (run E (φ 0))) (φ 0) (φ 1) c (k:Int) c.1[k] false=r:=by
      simp only[Z101.j1_eq _ qag,cond_false]
      exact inner k h2 _ (fun _=>ih) fun hn=>absurd hfc hn
    refine qda (fun hk=>?_) fun hk=>last
    rw[qaq (by omega) (by omega),show((k:Int)-1)=((k-1:Nat):Int) by omega]
    have hk1:k-1<c.1.length:=by omega
    have hcm:=hcm (by omega)
    rw[qal hk1,qal h2] at hcm
    refine qaf (qah hk1) (qac (qdR _ _ (qbh hc hk1)) ?_)
    simp only[qaE hcm,Bool.not_true]
    exact last
  · simp only[Z101.l0_succ _ qag]
    exact qaL (decide_eq_false (by omega)) qan
  · have:pb (∀ j,0≤j→j<c.1.length→qkI c.1 j)=pb (VC c.1):=qaC
      ⟨fun h=>⟨by omega,fun k hk=>(h k (by omega) hk).1.1,fun k h1 hk=>(h k (by omega) hk).1.2 h1,fun k hk=>(h k (by omega) hk).2⟩,
       fun h k _ hk=>⟨⟨h.2.1 k hk,fun h1=>h.2.2.1 k h1 hk⟩,h.2.2.2 k hk⟩⟩
    rw[this]
end VeT
open Go Go.Proofs Ve
namespace VeT
def Pr(p:Int):Prop:=2≤p∧p≤251∧∀ k:Nat,2≤k→(k:Int)*k≤p→p%k≠0
theorem qdg(p:Int):Ret E n_Z13 [dI p] ⟨o_Z13,(pb (Pr p),())⟩:=by
  refine qao ?_
  simp only[run_Z13,Z13.ev]
  refine qac (qbR _ _ _) (qcm (fun h=>qaj ?_) fun h=>?_)
  · have h:¬ (2≤p∧p≤251):=qa5.1 (by simpa using h)
    rw[qap fun hp=>h ⟨hp.1,hp.2.1⟩]
  have hr:2≤p∧p≤251:=qaz.1 (by simpa using h)
  refine Ev.start (p:=fun φ n=>Z13.l0 (mkR (run E (φ 0))) (φ 0) n p 2=_) 1 ?_ (fun _ _ _ h=>h)
  refine qeK 1 (σ:=Nat) (L:=fun φ n k=>Z13.l0 (mkR (run E (φ 0))) (φ 0) n p (k:Int)) (fun _ _ _ _=>rfl) (fun k=>2≤k∧k≤17∧∀ j:Nat,2≤j→j<k→(j:Int)*j≤p→p%j≠0) (fun _=>_) (fun k=>17-k) (fun k ⟨h1,h2,h3⟩ ih=>?_) 2 ⟨by omega,by omega,fun j _ _=>by omega⟩
  simp only[Z13.l0_succ _ qag]
  have hkk:0≤(k:Int)*k∧(k:Int)*k≤289:=⟨Int.mul_nonneg (by omega) (by omega),by have:=Nat.mul_le_mul h2 h2;omega⟩
  have e:w64 ((k:Int)*k)=(k:Int)*k:=qaq (by omega) (by omega)
  simp only[e]
  refine qda (fun hle=>?_) fun hle=>qaj ?_
  · have hk16:k<16:=Classical.byContradiction fun hn=>by
      have:=Nat.mul_le_mul (show 16≤k by omega) (show 16≤k by omega);omega
    refine qaA (by simp;omega) ?_
    rw[Int.tmod_eq_emod_of_nonneg (by omega)]
    refine qcm (fun h0=>qaj ?_) fun h0=>?_
    · rw[qap fun hp=>hp.2.2 k h1 hle (by simpa using h0)]
    · rw[qai (by omega)]
      refine ih (k+1) ⟨by omega,by omega,fun j hj1 hj2 hj3=>?_⟩ (by show 17-(k+1)<17-k;omega)
      by_cases hjk:j=k
      · subst hjk;simpa using h0
      · exact h3 j hj1 (by omega) hj3
  · rw[qaE]
    refine⟨hr.1,hr.2,fun j hj1 hj2=>?_⟩
    by_cases hjk:j<k
    · exact h3 j hj1 hjk hj2
    · exfalso
      have:=Nat.mul_le_mul (show k≤j by omega) (show k≤j by omega);omega
theorem qhi(p:Int):Ret E n_Z92 [dI p] ⟨o_Z92,(pb (Pr p),())⟩:=by
  refine qao ?_
  simp only[run_Z92,Z92.ev]
  refine qac (qbH _ _ _) (qcm (fun h=>qaj ?_) fun h=>?_)
  · have h:¬ (2≤p∧p≤251):=qa5.1 (by simpa using h)
    rw[qap fun hp=>h ⟨hp.1,hp.2.1⟩]
  have hr:2≤p∧p≤251:=qaz.1 (by simpa using h)
  refine Ev.start (p:=fun φ n=>Z92.l0 (mkR (run E (φ 0))) (φ 0) n p 2=_) 1 ?_ (fun _ _ _ h=>h)
  refine qeK 1 (σ:=Nat) (L:=fun φ n k=>Z92.l0 (mkR (run E (φ 0))) (φ 0) n p (k:Int)) (fun _ _ _ _=>rfl) (fun k=>2≤k∧k≤17∧∀ j:Nat,2≤j→j<k→(j:Int)*j≤p→p%j≠0) (fun _=>_) (fun k=>17-k) (fun k ⟨h1,h2,h3⟩ ih=>?_) 2 ⟨by omega,by omega,fun j _ _=>by omega⟩
  simp only[Z92.l0_succ _ qag]
  have hkk:0≤(k:Int)*k∧(k:Int)*k≤289:=⟨Int.mul_nonneg (by omega) (by omega),by have:=Nat.mul_le_mul h2 h2;omega⟩
  have e:w64 ((k:Int)*k)=(k:Int)*k:=qaq (by omega) (by omega)
  simp only[e]
  refine qda (fun hle=>?_) fun hle=>qaj ?_
  · have hk16:k<16:=Classical.byContradiction fun hn=>by
      have:=Nat.mul_le_mul (show 16≤k by omega) (show 16≤k by omega);omega
    refine qaA (by simp;omega) ?_
    rw[Int.tmod_eq_emod_of_nonneg (by omega)]
    refine qcm (fun h0=>qaj ?_) fun h0=>?_
    · rw[qap fun hp=>hp.2.2 k h1 hle (by simpa using h0)]
    · rw[qai (by omega)]
      refine ih (k+1) ⟨by omega,by omega,fun j hj1 hj2 hj3=>?_⟩ (by show 17-(k+1)<17-k;omega)
      by_cases hjk:j=k
      · subst hjk;simpa using h0
      · exact h3 j hj1 (by omega) hj3
  · rw[qaE]
    refine⟨hr.1,hr.2,fun j hj1 hj2=>?_⟩
    by_cases hjk:j<k
    · exact h3 j hj1 hjk hj2
    · exfalso
      have:=Nat.mul_le_mul (show k≤j by omega) (show k≤j by omega);omega
theorem qb6(p:Int):Ret E n_Z84 [dI p] ⟨o_Z84,(pb (Pr p),())⟩:=by
 refine qao ?_
 simp only[run_Z84,Z84.ev]
 exact qac (qhi p) qan
def qhT(v:Sim)(p:Int):Prop:=∀ x∈v,0≤x∧x≤p-1
theorem qgK(a p:Int)(hp:0≤p∧p≤1048576):Ret E n_Z28 [dI a,dI p] ⟨o_Z28,(pb (0≤a∧a≤p-1),())⟩:=by
 refine qao ?_
 simp only[run_Z28,Z28.ev]
 rw[qaq (by omega) (by omega)]
 exact qac (qbR _ _ _) qan
theorem qec(a p:Int)(hp:0≤p∧p≤1048576):Ret E n_Z18 [dI a,⟨.ptr (.cons yI .nil),(p,())⟩] ⟨o_Z18,(!pb (0≤a∧a≤p-1),())⟩:=by
 refine qao ?_
 simp only[run_Z18,Z18.ev]
 exact qac (qgK _ _ hp) qan
theorem qgL{α:Type}{s:List α}{P:α→Prop}:(!pb (∃ x∈s,(!pb (P x))=true))=pb (∀ x∈s,P x):=qfU (by
 simp only[Bool.not_eq_true',qa5]
 exact⟨fun h x hx=>Classical.byContradiction fun hn=>h ⟨x,hx,hn⟩,fun h ⟨x,hx,hn⟩=>hn (h x hx)⟩)
theorem qe4(v:Sim)(p:Int)(hv:v.length≤1048576)(hp:0≤p∧p≤1048576):Ret E n_Z17 [dL v,dI p] ⟨o_Z17,(pb (qhT v p),())⟩:=by
 refine qao ?_
 simp only[run_Z17,Z17.ev]
 refine qac (qaO v ((p,()),()) _ hv fun x _=>qec x p hp) (qaj ?_)
 simp only[qgL];rfl
theorem qdI(v:Sim)(n p:Int)(hv:v.length≤1048576)(hp:0≤p∧p≤1048576):Ret E n_Z93 [dL v,dI n,dI p] ⟨o_Z93,(pb (qhT v p∧(v.length:Int)=n),())⟩:=by
  have e:w64 (p-1)=p-1:=qaq (by omega) (by omega)
  refine qao ?_
  simp only[run_Z93,Z93.ev]
  refine Ev.start (p:=fun φ n'=>Z93.l0 (mkR (run E (φ 0))) (φ 0) n' v n p 0=_) 1 ?_ (fun _ _ _ h=>h)
  refine(qcF 1 (L:=fun φ n' k=>Z93.l0 (mkR (run E (φ 0))) (φ 0) n' v n p k) (len:=v.length) 0 (by omega) (fun j=>0≤v.getD j 0∧v.getD j 0≤p-1) (fun b=>some ⟨o_Z93,(b&&((v.length:Int)==n),())⟩) (fun _ _ _ _=>rfl) (fun k h1 h2 hP _=>?_) (fun k r h1 h2 hP _ ih=>?_) (fun _=>?_)).to ?_
  · simp only[Z93.l0_succ _ qag,e]
    rw[qal h2] at hP
    exact qaF (decide_eq_true (by omega)) (qaf (qah h2) (qac (qbH _ _ _) (qaF (by rw[qap hP];rfl) qan)))
  · simp only[Z93.l0_succ _ qag,e]
    rw[qal h2] at hP
    refine qaF (decide_eq_true (by omega)) (qaf (qah h2) (qac (qbH _ _ _) (qaL (by rw[qaE hP];rfl) ?_)))
    rw[qai (by omega)];exact ih
  · simp only[Z93.l0_succ _ qag]
    exact qaL (decide_eq_false (by omega)) (qaj (by rw[Bool.true_and]))
  · have:(pb (∀ j,0≤j→j<v.length→0≤v.getD j 0∧v.getD j 0≤p-1)&&((v.length:Int)==n))=pb (qhT v p∧(v.length:Int)=n):=qfU (by
      rw[Bool.and_eq_true,qaz,beq_iff_eq]
      refine and_congr_left' ⟨fun h x hx=>?_,fun h j _ hj=>?_⟩
      · obtain⟨j,hj,rfl⟩:=List.mem_iff_getElem.1 hx
        have:=h j (by omega) hj
        rwa [qal hj] at this
      · rw[qal hj];exact h _ (List.getElem_mem hj))
    rw[this]
theorem qgi(n:Int):Ret E n_Z32 [dI n] ⟨o_Z32,(pb (0≤n∧n≤32),())⟩:=by
 refine qao ?_
 simp only[run_Z32,Z32.ev]
 exact qac (qbR _ _ _) qan
theorem qh4(s:Sim):Ret E n_Z37 [dL s] ⟨o_Z37,((s.length:Int),())⟩:=by
 refine qao ?_
 simp only[run_Z37,Z37.ev]
 (first | exact qan | exact Ev.of fun _=>trivial)
theorem qhX(s:List Sim):Ret E n_Z36 [dLL s] ⟨o_Z36,((s.length:Int),())⟩:=by
 refine qao ?_
 simp only[run_Z36,Z36.ev]
 (first | exact qan | exact Ev.of fun _=>trivial)
def VM(m:Mat):Prop:=Pr m.1∧(0≤m.2.1∧m.2.1≤32)∧(0≤m.2.2.1∧m.2.2.1≤32)∧(m.2.2.2.1.length:Int)=m.2.1*m.2.2.1∧qhT m.2.2.2.1 m.1
theorem qgr{a b:Int}(ha:0≤a∧a≤32)(hb:0≤b∧b≤32):0≤a*b∧a*b≤1024:=by
 obtain⟨x,rfl⟩:=Int.eq_ofNat_of_zero_le ha.1
 obtain⟨y,rfl⟩:=Int.eq_ofNat_of_zero_le hb.1
 have:=Nat.mul_le_mul (show x≤32 by omega) (show y≤32 by omega)
 have e:(x:Int)*y=((x*y:Nat):Int):=by simp
 show 0≤(x:Int)*y∧(x:Int)*y≤1024
 rw[e];omega
theorem qeT(m:Mat)(hm:Sm (.st cM) m):Ret E n_Z12 [dI m.1,dI m.2.1,dI m.2.2.1,dL m.2.2.2.1] ⟨o_Z12,(pb (VM m),())⟩:=by
 have hl:m.2.2.2.1.length≤1048576:=hm.2.2.2.1.1
 refine qao ?_
 simp only[run_Z12,Z12.ev]
 refine qac (qdg _) (qcm (fun h1=>qac (qgi _) (qcm (fun h2=>qac (qgi _) (qcm (fun h3=>qac (qh4 _) (qcm (fun h4=>?_) fun h4=>qaj ?_)) fun h3=>qaj ?_)) fun h2=>qaj ?_)) fun h1=>qaj ?_)
 ·have h1:=qaz.1 h1;have h2:=qaz.1 h2;have h3:=qaz.1 h3
  have:=qgr h2 h3
  rw[qaq (by omega) (by omega)] at h4
  refine qac (qe4 _ _ hl ⟨by have:=h1.1;omega,by have:=h1.2.1;omega⟩) (qaj ?_)
  exact congrArg (fun b:Bool=>some (⟨o_Z12,(b,())⟩:Dv)) (qaC ⟨fun h=>⟨h1,h2,h3,by simpa using h4,h⟩,fun h=>h.2.2.2.2⟩)
 ·have h2:=qaz.1 h2;have h3:=qaz.1 h3
  have:=qgr h2 h3
  rw[qaq (by omega) (by omega)] at h4
  rw[qap fun h=>by have:=h.2.2.2.1;simp[this] at h4]
 ·rw[qap fun h=>qa5.1 h3 h.2.2.1]
 ·rw[qap fun h=>qa5.1 h2 h.2.1]
 ·rw[qap fun h=>qa5.1 h1 h.1]
theorem qjA(m:Mat)(hm:Sm (.st cM) m):Ret E n_Z94 [dM m] ⟨o_Z94,(pb (VM m),())⟩:=by
 have hl:m.2.2.2.1.length≤1048576:=hm.2.2.2.1.1
 refine qao ?_
 simp only[run_Z94,Z94.ev]
 refine qac (qb6 _) (qcm (fun h1=>qac (qbH _ _ _) (qcm (fun h2=>qac (qbH _ _ _) (qcm (fun h3=>?_) fun h3=>qaj ?_)) fun h2=>qaj ?_)) fun h1=>qaj ?_)
 ·have h1:=qaz.1 h1;have h2:=qaz.1 h2;have h3:=qaz.1 h3
  have:=qgr h2 h3
  rw[qaq (by omega) (by omega)]
  refine qac (qdI _ _ _ hl ⟨by have:=h1.1;omega,by have:=h1.2.1;omega⟩) (qaj ?_)
  exact congrArg (fun b:Bool=>some (⟨o_Z94,(b,())⟩:Dv)) (qaC ⟨fun h=>⟨h1,h2,h3,h.2,h.1⟩,fun h=>⟨h.2.2.2.2,h.2.2.2.1⟩⟩)
 ·rw[qap fun h=>qa5.1 h3 h.2.2.1]
 ·rw[qap fun h=>qa5.1 h2 h.2.1]
 ·rw[qap fun h=>qa5.1 h1 h.1]
def Bt(m:Mat)(p f t:Int):Prop:=VM m∧m.1=p∧m.2.1=t∧m.2.2.1=f
theorem qdP(m:Mat)(p f t:Int)(hm:Sm (.st cM) m):Ret E n_Z27 [dI m.1,dI m.2.1,dI m.2.2.1,dL m.2.2.2.1,dI p,dI f,dI t] ⟨o_Z27,(pb (Bt m p f t),())⟩:=by
 refine qao ?_
 simp only[run_Z27,Z27.ev]
 refine qac (qeT m hm) (qcm (fun h1=>qcm (fun h2=>qcm (fun h3=>qaj ?_) fun h3=>qaj ?_) fun h2=>qaj ?_) fun h1=>qaj ?_)
 ·have h1:=qaz.1 h1
  have:(m.2.2.1==f)=pb (Bt m p f t):=qfU (by
   rw[beq_iff_eq];exact⟨fun h=>⟨h1,by simpa using h2,by simpa using h3,h⟩,fun h=>h.2.2.2⟩)
  rw[this]
 ·rw[qap fun h=>by have:=h.2.2.1;simp[this] at h3]
 ·rw[qap fun h=>by have:=h.2.1;simp[this] at h2]
 ·rw[qap fun h=>qa5.1 h1 h.1]
def qbv(c:List Sim)(d:Int)(k:Nat):List Int:=((List.range k).filter fun i=>decide (((c.getD i []).length:Int)=d+1)).map Int.ofNat
theorem qgc(c:List Sim)(d:Int)(k:Nat):qbv c d (k+1)=qbv c d k++if ((c.getD k []).length:Int)=d+1 then [(k:Int)] else []:=by
 unfold qbv
 rw[List.range_succ,List.filter_append,List.map_append]
 congr 1
 by_cases h:((c.getD k []).length:Int)=d+1
 ·rw[if_pos h,List.filter_cons_of_pos (by simpa using h)];rfl
 ·rw[if_neg h,List.filter_cons_of_neg (by simpa using h)];rfl
theorem qca(c:List Sim)(d:Int)(k:Nat):(qbv c d k).length≤k:=by
 unfold qbv
 rw[List.length_map]
 exact Nat.le_trans (List.length_filter_le _ _) (by simp)
theorem qhD{c:List Sim}{d:Int}{k:Nat}{x:Int}(h:x∈qbv c d k):∃ i:Nat,x=i∧i<k:=by
 unfold qbv at h
 rw[List.mem_map] at h
 obtain⟨i,hi,rfl⟩:=h
 exact⟨i,rfl,by have:=(List.mem_filter.1 hi).1;simpa using this⟩
theorem qeZ(c:List Sim)(d:Int)(hc:Sm yK c)(hd:-1≤d∧d≤1048576):Ret E n_Z35 [dLL c,dI d] ⟨o_Z35,(qbv c d c.length,())⟩:=by
 have hc1:c.length≤1048576:=hc.1
 have hd1:w64 (d+1)=d+1:=qaq (by omega) (by omega)
 refine qao ?_
 simp only[run_Z35,Z35.ev]
 refine Ev.start (p:=fun φ n=>Z35.l0 (mkR (run E (φ 0))) (φ 0) n d c (c.length:Int) 0 []=_) 1 ?_ (fun _ _ _ h=>h)
 refine qav 1 (L:=fun φ n k a=>Z35.l0 (mkR (run E (φ 0))) (φ 0) n d c (c.length:Int) k a) (len:=c.length) (fun k=>qbv c d k) (fun _ _ _ _ _=>rfl) (fun k r hk ih=>?_) ?_
 ·simp only[Z35.l0_succ _ qag,hd1]
  rw[qgc,qal hk] at ih
  have hlen:=qca c d k
  refine qaF (decide_eq_true (by omega)) (qaf (qah hk) (qac (qh4 _) ?_))
  rw[qai (by omega)]
  refine qcm (fun he=>qaA (decide_eq_true (by simp only[List.length_cons,List.length_nil];omega)) ?_) fun he=>?_
  ·rw[if_pos (by simpa using he)] at ih;exact ih
  ·rw[if_neg (by simpa using he),List.append_nil] at ih;exact ih
 ·simp only[Z35.l0_succ _ qag]
  exact qaL (decide_eq_false (by omega)) qan
theorem qjw(c:List Sim)(d:Int)(hc:Sm yK c)(hd:-1≤d∧d≤1048576):Ret E n_Z100 [dC (c,()),dI d] ⟨o_Z100,(qbv c d c.length,())⟩:=by
 have hc1:c.length≤1048576:=hc.1
 have hd1:w64 (d+1)=d+1:=qaq (by omega) (by omega)
 refine qao ?_
 simp only[run_Z100,Z100.ev]
 refine Ev.start (p:=fun φ n=>Z100.l0 (mkR (run E (φ 0))) (φ 0) n (c,()) d 0 []=_) 1 ?_ (fun _ _ _ h=>h)
 refine qav 1 (L:=fun φ n k a=>Z100.l0 (mkR (run E (φ 0))) (φ 0) n (c,()) d k a) (len:=c.length) (fun k=>qbv c d k) (fun _ _ _ _ _=>rfl) (fun k r hk ih=>?_) ?_
 ·simp only[Z100.l0_succ _ qag,hd1]
  rw[qgc,qal hk] at ih
  have hlen:=qca c d k
  refine qaF (decide_eq_true (by omega)) (qaf (qah hk) ?_)
  rw[qai (by omega)]
  refine qcm (fun he=>qaA (decide_eq_true (by simp only[List.length_cons,List.length_nil];omega)) ?_) fun he=>?_
  ·rw[if_pos (by simpa using he)] at ih;exact ih
  ·rw[if_neg (by simpa using he),List.append_nil] at ih;exact ih
 ·simp only[Z100.l0_succ _ qag]
  exact qaL (decide_eq_false (by omega)) qan
def qiS(c:List Sim)(st:Sim)(d:Int)(k:Nat):Int:=(((qbv c d c.length).take k).map fun i=>st.getD i.toNat 0).sum
theorem qe0(c:List Sim)(st:Sim)(d:Int)(k:Nat)(h:k<(qbv c d c.length).length):qiS c st d (k+1)=qiS c st d k+st.getD ((qbv c d c.length)[k]).toNat 0:=by
 unfold qiS
 rw[List.take_succ_eq_append_getElem h,List.map_append,List.sum_append]
 simp
theorem qjS{c:List Sim}{st:Sim}(hst:∀ x∈st,0≤x∧x≤3)(d:Int)(k:Nat):0≤qiS c st d k∧qiS c st d k≤3*k:=by
  induction k with
  | zero=>simp[qiS]
  | succ k ih =>
    by_cases h:k<(qbv c d c.length).length
    · rw[qe0 _ _ _ _ h]
      have:0≤st.getD ((qbv c d c.length)[k]).toNat 0∧st.getD ((qbv c d c.length)[k]).toNat 0≤3:=by
        by_cases hl:((qbv c d c.length)[k]).toNat<st.length
        · rw[qal hl];exact hst _ (List.getElem_mem hl)
        · rw[List.getD_eq_getElem?_getD,List.getElem?_eq_none (by omega)];simp
      omega
    · have:qiS c st d (k+1)=qiS c st d k:=by
        unfold qiS
        rw[List.take_of_length_le (by omega),List.take_of_length_le (by omega)]
      omega
theorem qeD(c:List Sim)(st:Sim)(d:Int)(p:Int)(ms:List Mat)(hc:Sm yK c)(hl:st.length=c.length)(hst:∀ x∈st,0≤x∧x≤3)(hd:-1≤d∧d≤1048576) :
  Ret E n_Z38 [dLL c,dI p,dL st,dMs ms,dI d] ⟨o_Z38,(qiS c st d (qbv c d c.length).length,())⟩:=by
 have hc1:c.length≤1048576:=hc.1
 have hol:=qca c d c.length
 refine qao ?_
 simp only[run_Z38,Z38.ev]
 refine qac (qeZ c d hc hd) ?_
 refine Ev.start (p:=fun φ n=>Z38.l0 (mkR (run E (φ 0))) (φ 0) n 0 (qbv c d c.length) ((qbv c d c.length).length:Int) 0 c p st ms=_) 1 ?_ (fun _ _ _ h=>h)
 refine qav 1 (L:=fun φ n k a=>Z38.l0 (mkR (run E (φ 0))) (φ 0) n a (qbv c d c.length) ((qbv c d c.length).length:Int) k c p st ms) (len:=(qbv c d c.length).length) (fun k=>qiS c st d k) (fun _ _ _ _ _=>rfl) (fun k r hk ih=>?_) ?_
 ·simp only[Z38.l0_succ _ qag]
  obtain⟨i,hi,hik⟩:=qhD (List.getElem_mem hk)
  rw[qe0 _ _ _ _ hk,hi,Int.toNat_natCast,qal (by omega)] at ih
  have hb:=qjS hst d k (c:=c)
  have hb2:=hst _ (List.getElem_mem (show i<st.length by omega))
  refine qaF (decide_eq_true (by omega)) (qaf (qah hk) ?_)
  simp only[hi]
  refine qaf (qah (by omega)) ?_
  rw[qai (by omega),qaq (by omega) (by omega)]
  exact ih
 ·simp only[Z38.l0_succ _ qag]
  exact qaL (decide_eq_false (by omega)) qan
theorem qgj(c:List Sim)(st:Sim)(d:Int)(hc:Sm yK c)(hl:st.length=c.length)(hst:∀ x∈st,0≤x∧x≤3)(hd:-1≤d∧d≤1048576) :
  Ret E n_Z111 [dC (c,()),dL st,dI d] ⟨o_Z111,(qiS c st d (qbv c d c.length).length,())⟩:=by
 have hc1:c.length≤1048576:=hc.1
 have hol:=qca c d c.length
 refine qao ?_
 simp only[run_Z111,Z111.ev]
 refine qac (qjw c d hc hd) ?_
 refine Ev.start (p:=fun φ n=>Z111.l0 (mkR (run E (φ 0))) (φ 0) n st (qbv c d c.length) 0 0=_) 1 ?_ (fun _ _ _ h=>h)
 refine qav 1 (L:=fun φ n k a=>Z111.l0 (mkR (run E (φ 0))) (φ 0) n st (qbv c d c.length) a k) (len:=(qbv c d c.length).length) (fun k=>qiS c st d k) (fun _ _ _ _ _=>rfl) (fun k r hk ih=>?_) ?_
 ·simp only[Z111.l0_succ _ qag]
  obtain⟨i,hi,hik⟩:=qhD (List.getElem_mem hk)
  rw[qe0 _ _ _ _ hk,hi,Int.toNat_natCast,qal (by omega)] at ih
  have hb:=qjS hst d k (c:=c)
  have hb2:=hst _ (List.getElem_mem (show i<st.length by omega))
  refine qaF (decide_eq_true (by omega)) (qaf (qah hk) ?_)
  simp only[hi]
  refine qaf (qah (by omega)) ?_
  rw[qai (by omega),qaq (by omega) (by omega)]
  exact ih
 ·simp only[Z111.l0_succ _ qag]
  exact qaL (decide_eq_false (by omega)) qan
end VeT
open Go Go.Proofs Ve
namespace VeT
theorem qj6(s:Sim)(v:Int)(hs:s.length≤1048576):Ret E n_Z82 [dL s,dI v] ⟨o_Z82,(qh6 (fun x=>pb (x=v)) s,())⟩:=by
  obtain⟨o,h1,h2,h3⟩:=qby 1 (L:=fun φ n k=>Z82.l0 (mkR (run E (φ 0))) (φ 0) n s v (s.length:Int) k) (len:=s.length) (fun k=>∃ h:k<s.length,pb (s[k]=v)=true) (fun o=>some ⟨o_Z82,(o2i o,())⟩) (fun _ _ _ _=>rfl) (fun k hk hP=>by
      obtain⟨_,hP⟩:=hP
      have hP:=qaz.1 hP
      simp only[Z82.l0_succ _ qag]
      exact qaF (decide_eq_true (by omega)) (qaf (qah hk) (qaF (by simp[hP]) qan))) (fun k q hk hP ih=>by
      simp only[Z82.l0_succ _ qag]
      refine qaF (decide_eq_true (by omega)) (qaf (qah hk) (qaL (by simp only[beq_eq_false_iff_ne];exact fun e=>hP ⟨hk,qaE e.symm⟩) ?_))
      rw[qai (by omega)];exact ih) (by
      simp only[Z82.l0_succ _ qag]
      exact qaL (decide_eq_false (by omega)) qan)
  rw[qcT (p:=fun x=>pb (x=v)) h1 h2] at h3
  refine qao ?_
  simp only[run_Z82,Z82.ev]
  exact Ev.start (p:=fun φ n=>Z82.l0 (mkR (run E (φ 0))) (φ 0) n s v (s.length:Int) 0=_) 1 h3 (fun _ _ _ h=>h)
theorem qh1(s:Sim)(v:Int)(hs:s.length≤1048576):Ret E n_Z72 [dL s,dI v] ⟨o_Z72,(pb (v∈s),())⟩:=by
 refine qao ?_
 simp only[run_Z72,Z72.ev]
 refine qac (qj6 s v hs) (qaj ?_)
 have:decide (qh6 (fun x=>pb (x=v)) s≥0)=pb (v∈s):=qfU (by
  rw[decide_eq_true_iff,ge_iff_le,qa9]
  exact⟨fun⟨x,h,e⟩=>qaz.1 e ▸ h,fun h=>⟨v,h,qaE rfl⟩⟩)
 simp only[this]
theorem qf0(s:Sim)(v:Int)(hs:s.length≤1048576):Ret E n_Z85 [dL s,dI v] ⟨o_Z85,(pb (v∈s),())⟩:=by
  obtain⟨o,h1,h2,h3⟩:=qby 1 (L:=fun φ n k=>Z85.l0 (mkR (run E (φ 0))) (φ 0) n s v k) (len:=s.length) (fun k=>∃ h:k<s.length,s[k]=v) (fun o=>some ⟨o_Z85,(o.isSome,())⟩) (fun _ _ _ _=>rfl) (fun k hk hP=>by
      obtain⟨_,hP⟩:=hP
      simp only[Z85.l0_succ _ qag]
      exact qaF (decide_eq_true (by omega)) (qaf (qah hk) (qaF (by simp[hP]) qan))) (fun k q hk hP ih=>by
      simp only[Z85.l0_succ _ qag]
      refine qaF (decide_eq_true (by omega)) (qaf (qah hk) (qaL (by simp only[beq_eq_false_iff_ne];exact fun e=>hP ⟨hk,e⟩) ?_))
      rw[qai (by omega)];exact ih) (by
      simp only[Z85.l0_succ _ qag]
      exact qaL (decide_eq_false (by omega)) qan)
  have:o.isSome=pb (v∈s):=qfU (by
    cases o with
    | none =>
      simp only[Option.isSome_none,Bool.false_eq_true,false_iff]
      intro hm
      obtain⟨j,hj,e⟩:=List.mem_iff_getElem.1 hm
      exact h2 rfl j hj ⟨hj,e⟩
    | some k =>
      obtain⟨_,⟨hk,e⟩,_⟩:=h1 k rfl
      simp only[Option.isSome_some,true_iff]
      exact e ▸ List.getElem_mem hk)
  rw[this] at h3
  refine qao ?_
  simp only[run_Z85,Z85.ev]
  exact Ev.start (p:=fun φ n=>Z85.l0 (mkR (run E (φ 0))) (φ 0) n s v 0=_) 1 h3 (fun _ _ _ h=>h)
def qlH(a b:Sim):Prop:=∀ x∈a,x∈b
theorem qho(x:Int)(b:Sim)(hb:b.length≤1048576):Ret E n_Z30 [dI x,⟨.ptr (.cons yL .nil),(b,())⟩] ⟨o_Z30,(!pb (x∈b),())⟩:=by
 refine qao ?_
 simp only[run_Z30,Z30.ev]
 exact qac (qh1 b x hb) qan
theorem qi7(a b:Sim)(ha:a.length≤1048576)(hb:b.length≤1048576):Ret E n_Z29 [dL a,dL b] ⟨o_Z29,(pb (qlH a b),())⟩:=by
 refine qao ?_
 simp only[run_Z29,Z29.ev]
 refine qac (qa3 a ((b,()),()) _ ha fun x _=>qho x b hb) (qaj ?_)
 simp only[qgL];rfl
theorem qil(a b:Sim)(ha:a.length≤1048576)(hb:b.length≤1048576):Ret E n_Z102 [dL a,dL b] ⟨o_Z102,(pb (qlH a b),())⟩:=by
 refine qao ?_
 simp only[run_Z102,Z102.ev]
 refine Ev.start (p:=fun φ n=>Z102.l0 (mkR (run E (φ 0))) (φ 0) n a b 0=_) 1 ?_ (fun _ _ _ h=>h)
 refine(qcF 1 (L:=fun φ n k=>Z102.l0 (mkR (run E (φ 0))) (φ 0) n a b k) (len:=a.length) 0 (by omega) (fun j=>a.getD j 0∈b) (fun b=>some ⟨o_Z102,(b,())⟩) (fun _ _ _ _=>rfl) (fun k h1 h2 hP _=>?_) (fun k r h1 h2 hP _ ih=>?_) (fun _=>?_)).to ?_
 ·simp only[Z102.l0_succ _ qag]
  rw[qal h2] at hP
  exact qaF (decide_eq_true (by omega)) (qaf (qah h2) (qac (qf0 b _ hb) (qaF (by rw[qap hP];rfl) qan)))
 ·simp only[Z102.l0_succ _ qag]
  rw[qal h2] at hP
  refine qaF (decide_eq_true (by omega)) (qaf (qah h2) (qac (qf0 b _ hb) (qaL (by rw[qaE hP];rfl) ?_)))
  rw[qai (by omega)];exact ih
 ·simp only[Z102.l0_succ _ qag]
  exact qaL (decide_eq_false (by omega)) qan
 ·refine congrArg (fun b:Bool=>some (⟨o_Z102,(b,())⟩:Dv)) (qaC ⟨fun h x hx=>?_,fun h j _ hj=>by rw[qal hj];exact h _ (List.getElem_mem hj)⟩)
  obtain⟨j,hj,rfl⟩:=List.mem_iff_getElem.1 hx
  have:=h j (by omega) hj
  rwa [qal hj] at this
open Classical in
noncomputable def qhk(c:List Sim)(s:Sim):Nat→List Int
 | 0=>[]
 | k+1=>qhk c s k++if qlH s (c.getD k []) then [(k:Int)] else []
theorem qdn{c:List Sim}{s:Sim}:∀ {k:Nat},(qhk c s k).length≤k
 | 0=>by simp[qhk]
 | k+1=>by
  have:=qdn (c:=c) (s:=s) (k:=k)
  rw[qhk,List.length_append];split<;>simp<;>omega
theorem qja(c:List Sim)(k:Nat)(hk:k<c.length)(hc:Sm yK c):Ret E n_Z39 [dLL c,dI (k:Int)] ⟨o_Z39,(qhk c c[k] c.length,())⟩:=by
 have hc1:c.length≤1048576:=hc.1
 refine qao ?_
 simp only[run_Z39,Z39.ev]
 refine Ev.start (p:=fun φ n=>Z39.l0 (mkR (run E (φ 0))) (φ 0) n (k:Int) c (c.length:Int) 0 c []=_) 1 ?_ (fun _ _ _ h=>h)
 refine qav 1 (L:=fun φ n j a=>Z39.l0 (mkR (run E (φ 0))) (φ 0) n (k:Int) c (c.length:Int) j c a) (len:=c.length) (fun j=>qhk c c[k] j) (fun _ _ _ _ _=>rfl) (fun j r hj ih=>?_) ?_
 ·simp only[Z39.l0_succ _ qag]
  have hl:=qdn (c:=c) (s:=c[k]) (k:=j)
  rw[qhk,qal hj] at ih
  rw[qai (by omega)]
  refine qaF (decide_eq_true (by omega)) (qaf (qah hj) (qaf (qah hk) (qac (qi7 _ _ (qbh hc hk).1 (qbh hc hj).1) (qcm (fun h=>qaA (decide_eq_true (by simp only[List.length_cons,List.length_nil];omega)) ?_) fun h=>?_))))
  ·rw[if_pos (qaz.1 h)] at ih;exact ih
  ·rw[if_neg (qa5.1 h),List.append_nil] at ih;exact ih
 ·simp only[Z39.l0_succ _ qag]
  exact qaL (decide_eq_false (by omega)) qan
theorem qik(c:Cpx)(s:Sim)(hs:s.length≤1048576)(hc:Sm yK c.1):Ret E n_Z104 [dC c,dL s] ⟨o_Z104,(qhk c.1 s c.1.length,())⟩:=by
 have hc1:c.1.length≤1048576:=hc.1
 refine qao ?_
 simp only[run_Z104,Z104.ev]
 refine Ev.start (p:=fun φ n=>Z104.l0 (mkR (run E (φ 0))) (φ 0) n c s 0 []=_) 1 ?_ (fun _ _ _ h=>h)
 refine qav 1 (L:=fun φ n j a=>Z104.l0 (mkR (run E (φ 0))) (φ 0) n c s j a) (len:=c.1.length) (fun j=>qhk c.1 s j) (fun _ _ _ _ _=>rfl) (fun j r hj ih=>?_) ?_
 ·simp only[Z104.l0_succ _ qag]
  have hl:=qdn (c:=c.1) (s:=s) (k:=j)
  rw[qhk,qal hj] at ih
  rw[qai (by omega)]
  refine qaF (decide_eq_true (by omega)) (qaf (qah hj) (qac (qil _ _ hs (qbh hc hj).1) (qcm (fun h=>qaA (decide_eq_true (by simp only[List.length_cons,List.length_nil];omega)) ?_) fun h=>?_)))
  ·rw[if_pos (qaz.1 h)] at ih;exact ih
  ·rw[if_neg (qa5.1 h),List.append_nil] at ih;exact ih
 ·simp only[Z104.l0_succ _ qag]
  exact qaL (decide_eq_false (by omega)) qan
end VeT
open Go Go.Proofs Ve
namespace VeT
abbrev Tx:=List UInt8
abbrev dT(l:ByteArray):Dv:=⟨.str,l⟩
abbrev dTs(l:List ByteArray):Dv:=⟨.sl .str,l⟩
def tx(l:Tx):ByteArray:=⟨l.toArray⟩
theorem qaG(l:Tx):(tx l).size=l.length:=by
 show l.toArray.size=_
 simp
theorem qbj(a b:Tx):tx a++tx b=tx (a++b):=by
 apply ByteArray.ext
 rw[ByteArray.data_append]
 show a.toArray++b.toArray=(a++b).toArray
 simp
theorem qim(l:Tx):(tx l).data.toList=l:=by
 show l.toArray.toList=l
 simp
theorem qiK(ls:List Tx)(s:Tx):qgQ (ls.map tx) (tx s)=tx (Go.Lib.join ls s):=by
 unfold qgQ
 have e:(ls.map tx).map (·.data.toList)=ls:=by
  rw[List.map_map]
  exact(List.map_congr_left fun l _=>qim l).trans (List.map_id' ls)
 rw[e,qim];rfl
theorem qgT(n:Nat)(args:List Dv):run E (n+1) n_Z113 args=qlj (mkR (run E n)) args:=rfl
theorem qg6(n:Int)(h1:-9223372036854775808≤n)(h2:n≤9223372036854775807):Ret E n_Z113 [dI n,dI 10] ⟨o_Z113,(tx (Go.Lib.itoa n),())⟩:=by
 refine qao ?_
 simp only[qgT]
 refine qaj ?_
 have hc:chk (decide ((10:Int)=(10:Int))&&decide (-9223372036854775808≤n)&&decide (n≤9223372036854775807))=some ():=by rw[decide_eq_true h1,decide_eq_true h2];rfl
 show((chk (decide ((10:Int)=(10:Int))&&decide (-9223372036854775808≤n)&&decide (n≤9223372036854775807))).map fun _=>(⟨.cons .str .nil,(qly n,())⟩:Dv))=_
 rw[hc]
 rfl
theorem qkh(n:Nat)(args:List Dv):run E (n+1) n_Z114 args=qjl (mkR (run E n)) args:=rfl
theorem qgy(ls:List Tx)(s:Tx)(h1:(Go.Lib.join ls s).length≤140737488355328)(h2:ls.length≤140737488355328):Ret E n_Z114 [dTs (ls.map tx),dT (tx s)] ⟨o_Z114,(tx (Go.Lib.join ls s),())⟩:=by
 refine qao ?_
 simp only[qkh]
 refine qaj ?_
 have hc:chk (decide ((qgQ (ls.map tx) (tx s)).size≤140737488355328)&&decide ((ls.map tx).length≤140737488355328))=some ():=by
  rw[qiK,qaG,List.length_map,decide_eq_true h1,decide_eq_true h2];rfl
 show((some (ls.map tx)).bind fun xs=>(some (tx s)).bind fun sep=>(chk (decide ((qgQ xs sep).size≤140737488355328)&&decide (List.length xs≤140737488355328))).map fun _=>(⟨.cons .str .nil,(qgQ xs sep,())⟩:Dv))=_
 simp only[Option.bind_some,hc]
 rw[Option.map_some,qiK]
theorem qfp(n:Int)(h1:-9223372036854775808≤n)(h2:n≤9223372036854775807):Ret E n_Z6 [dI n] ⟨o_Z6,(tx (Go.Lib.itoa n),())⟩:=by
 refine qao ?_
 simp only[run_Z6,Z6.ev]
 exact qac (qg6 n h1 h2) qan
def qjn(u:Nat):List Nat:=if h:u=0 then [] else u%10::qjn (u / 10)
termination_by u
decreasing_by omega
theorem qbV:qjn 0=[]:=by rw[qjn,dif_pos rfl]
theorem qeM{u:Nat}(h:u≠0):qjn u=u%10::qjn (u / 10):=by rw[qjn,dif_neg h]
theorem qjp:∀(b u:Nat),u≤b→∀ d∈qjn u,d<10
 | 0,u,h,d,hd=>by
  obtain rfl:u=0:=by omega
  rw[qbV] at hd;cases hd
 | b+1,u,h,d,hd=>by
  by_cases h0:u=0
  ·subst h0;rw[qbV] at hd;cases hd
  ·rw[qeM h0] at hd
   rcases List.mem_cons.1 hd with rfl | hd
   ·exact Nat.mod_lt _ (by omega)
   ·exact qjp b (u / 10) (by omega) d hd
theorem qiG:∀(b u:Nat),u≤b→u≠0→((qjn u).map fun d=>UInt8.ofNat (48+d)).reverse=Go.Lib.decDigits u
 | 0,u,h,h0=>by omega
 | b+1,u,h,h0=>by
  rw[qeM h0,List.map_cons,List.reverse_cons]
  by_cases h1:u<10
  ·rw[show u / 10=0 by omega,qbV,Go.Lib.decDigits_one h1,show u%10=u by omega];rfl
  ·rw[qiG b (u / 10) (by omega) (by omega)]
   conv=>rhs;rw[Go.Lib.decDigits,dif_neg h1]
theorem qiM:∀(b u:Nat),u<10 ^ b→(qjn u).length≤b
 | 0,u,h=>by
  obtain rfl:u=0:=by simp at h;exact h
  rw[qbV];exact Nat.le_refl _
 | b+1,u,h=>by
  by_cases h0:u=0
  ·subst h0;rw[qbV];exact Nat.zero_le _
  ·rw[qeM h0,List.length_cons]
   have:=qiM b (u / 10) (by rw[Nat.pow_succ] at h;omega)
   omega
def dgs(u:Nat):Sim:=(qjn u).map fun d=>((48+d:Nat):Int)
theorem qkB{d:Nat}(h:d<10):IntKind.wrap .u8 (w64 ((48:Int)+(d:Int)))=((48+d:Nat):Int):=by
 have e:w64 ((48:Int)+(d:Int))=((48+d:Nat):Int):=by rw[qaq (by omega) (by omega)];omega
 rw[e]
 have:∀ d:Fin 10,IntKind.wrap .u8 ((48+d.val:Nat):Int)=((48+d.val:Nat):Int):=by decide
 exact this ⟨d,h⟩
theorem qkj{l:List Nat}(h:∀ d∈l,d<10):(l.map fun d=>((48+d:Nat):Int)).map (fun n=>UInt8.ofNat (Int.toNat n))=l.map fun d=>UInt8.ofNat (48+d):=by
 rw[List.map_map]
 exact List.map_congr_left fun d _=>by
  show UInt8.ofNat (Int.toNat ((48+d:Nat):Int))=_
  rw[Int.toNat_natCast]
theorem qfX(o:Sim)(ho:o.length≤1000):Ev fun φ=>Z90.j2 (mkR (run E (φ 0))) (φ 0) o=some ⟨o_Z90,(tx (o.reverse.map fun n=>UInt8.ofNat (Int.toNat n)),())⟩:=by
 simp only[Z90.j2_eq _ qag]
 rw[qaq (by omega) (by omega)]
 have key:∀(n:Nat) (acc:Sim),n≤o.length→acc.length+n≤o.length→Ev fun φ=>Z90.l3 (mkR (run E (φ 0))) (φ 0) (φ 1) ((n:Int)-1) o acc=some ⟨o_Z90,(tx ((acc++(o.take n).reverse).map fun n=>UInt8.ofNat (Int.toNat n)),())⟩:=by
  intro n
  induction n with
  | zero =>
   intro acc _ _
   refine Ev.round 1 (L:=fun φ q=>Z90.l3 (mkR (run E (φ 0))) (φ 0) q (((0:Nat):Int)-1) o acc) ?_ (fun _ _ _=>rfl)
   simp only[Z90.l3_succ _ qag]
   refine qaL (decide_eq_false (by omega)) ?_
   rw[List.take_zero,List.reverse_nil,List.append_nil]
   exact qan
  | succ n ih =>
   intro acc hn hacc
   have hlt:n<o.length:=by omega
   have e1:((n+1:Nat):Int)-1=(n:Int):=by omega
   rw[e1]
   refine Ev.round 1 (L:=fun φ q=>Z90.l3 (mkR (run E (φ 0))) (φ 0) q (n:Int) o acc) ?_ (fun _ _ _=>rfl)
   simp only[Z90.l3_succ _ qag]
   refine qaF (decide_eq_true (by omega)) (qaA (by rw[decide_eq_true (show(0:Int)≤(n:Int) by omega),decide_eq_true (show(n:Int)<(o.length:Int) by omega)];rfl) (qaf (show o[Int.toNat (n:Int)]? = some o[n] by rw[Int.toNat_natCast];exact List.getElem?_eq_getElem hlt) (qaA (decide_eq_true (by simp only[List.length_singleton];omega)) ?_)))
   have h2:=ih (acc++[o[n]]) (by omega) (by simp;omega)
   rw[qaq (by omega) (by omega)]
   have e3:acc++(o.take (n+1)).reverse=acc++[o[n]]++(o.take n).reverse:=by
    rw[List.take_succ_eq_append_getElem hlt,List.reverse_append,List.append_assoc];rfl
   rw[e3]
   exact h2
 have h0:=key o.length [] (Nat.le_refl _) (by simp)
 rw[List.take_length,List.nil_append] at h0
 exact Ev.start (p:=fun φ n=>Z90.l3 (mkR (run E (φ 0))) (φ 0) n ((o.length:Int)-1) o []=_) 1 h0 (fun _ _ _ h=>h)
theorem qkr{n:Int}(h0:n≠0):((dgs n.natAbs++if n<0 then [45] else []).reverse.map fun n=>UInt8.ofNat (Int.toNat n))=Go.Lib.itoa n:=by
 have e1:(dgs n.natAbs).reverse.map (fun n=>UInt8.ofNat (Int.toNat n))=Go.Lib.decDigits n.natAbs:=by
  unfold dgs
  rw[List.map_reverse,qkj (qjp n.natAbs n.natAbs (Nat.le_refl _))]
  exact qiG n.natAbs n.natAbs (Nat.le_refl _) (by omega)
 unfold Go.Lib.itoa
 by_cases h:n<0
 ·rw[if_pos h,if_pos h,List.reverse_append,List.map_append,e1];rfl
 ·rw[if_neg h,if_neg h,List.append_nil,e1,show n.toNat=n.natAbs by omega]
theorem qkx(m:Int):(Int.tdiv m 10).natAbs=m.natAbs / 10∧(0≤m→0≤Int.tdiv m 10)∧(m≤0→Int.tdiv m 10≤0):=by
 refine⟨by rw[Int.natAbs_tdiv];rfl,fun h=>Int.tdiv_nonneg h (by omega),fun h=>?_⟩
 rcases Int.le_total 0 m with h2 | h2
 ·obtain rfl:m=0:=by omega
  simp
 ·obtain⟨k,rfl⟩:∃ k:Nat,m=-(k:Int):=⟨m.natAbs,by omega⟩
  rw[Int.neg_tdiv]
  have:0≤Int.tdiv (k:Int) 10:=Int.tdiv_nonneg (by omega) (by omega)
  omega
theorem qkC(m:Int):(Int.tmod m 10).natAbs=m.natAbs%10:=by rw[Int.natAbs_tmod];rfl
theorem qee(n:Int)(hn:n.natAbs<10 ^ 18):Ret E n_Z90 [dI n] ⟨o_Z90,(tx (Go.Lib.itoa n),())⟩:=by
 refine qao ?_
 simp only[run_Z90,Z90.ev]
 by_cases h0:n=0
 ·subst h0
  refine qaF rfl ?_
  have e:Go.Lib.itoa 0=[48]:=by rw[Go.Lib.itoa,if_neg (by omega),Go.Lib.decDigits_one (by decide)];rfl
  rw[e]
  exact qan
 refine qaL (by rw[beq_eq_false_iff_ne];exact h0) ?_
 rw[← qkr h0]
 have hfin:∀ o:Sim,o.length≤900→Ev fun φ=>(bif decide (n<(0:Int)) then(Option.bind (chk (decide ((List.length o+List.length [(45:Int)])*1≤70368744177664))) fun _=>Z90.j2 (mkR (run E (φ 0))) (φ 0) (o++[(45:Int)])) else Z90.j2 (mkR (run E (φ 0))) (φ 0) o)=some ⟨o_Z90,(tx ((o++if n<0 then [45] else []).reverse.map fun n=>UInt8.ofNat (Int.toNat n)),())⟩:=by
  intro o ho
  by_cases h:n<0
  ·rw[if_pos h]
   exact qaF (decide_eq_true h) (qaA (decide_eq_true (by simp only[List.length_singleton];omega)) (qfX _ (by simp;omega)))
  ·rw[if_neg h,List.append_nil]
   exact qaL (decide_eq_false h) (qfX _ (by omega))
 have hrl:(dgs n.natAbs).length≤18:=by unfold dgs;rw[List.length_map];exact qiM 18 _ hn
 have key:∀(b:Nat) (m:Int) (o:Sim),m.natAbs≤b→m.natAbs<10 ^ 18→o.length+(dgs m.natAbs).length≤18→Ev fun φ=>Z90.l0 (mkR (run E (φ 0))) (φ 0) (φ 1) n m o=some ⟨o_Z90,(tx ((o++dgs m.natAbs++if n<0 then [45] else []).reverse.map fun n=>UInt8.ofNat (Int.toNat n)),())⟩:=by
  intro b
  induction b with
  | zero =>
   intro m o hb _ hlen
   obtain rfl:m=0:=by omega
   refine Ev.round 1 (L:=fun φ q=>Z90.l0 (mkR (run E (φ 0))) (φ 0) q n 0 o) ?_ (fun _ _ _=>rfl)
   simp only[Z90.l0_succ _ qag]
   have e:dgs (Int.natAbs 0)=[]:=by show(qjn 0).map _=[];rw[qbV];rfl
   rw[e,List.append_nil]
   exact qaL rfl (hfin o (by omega))
  | succ b ih =>
   intro m o hb hm hlen
   refine Ev.round 1 (L:=fun φ q=>Z90.l0 (mkR (run E (φ 0))) (φ 0) q n m o) ?_ (fun _ _ _=>rfl)
   simp only[Z90.l0_succ _ qag]
   by_cases hz:m=0
   ·subst hz
    have e:dgs (Int.natAbs 0)=[]:=by show(qjn 0).map _=[];rw[qbV];rfl
    rw[e,List.append_nil]
    exact qaL rfl (hfin o (by omega))
   ·have hd:dgs m.natAbs=((48+m.natAbs%10:Nat):Int)::dgs (m.natAbs / 10):=by unfold dgs;rw[qeM (by omega)];rfl
    have hl10:m.natAbs%10<10:=Nat.mod_lt _ (by omega)
    obtain⟨t1,t2,t3⟩:=qkx m
    have t4:=qkC m
    have go:∀ d:Int,d=((m.natAbs%10:Nat):Int)→Ev fun φ=>Z90.j1 (mkR (run E (φ 0))) (φ 0) (φ 1) n m d o=some ⟨o_Z90,(tx ((o++dgs m.natAbs++if n<0 then [45] else []).reverse.map fun n=>UInt8.ofNat (Int.toNat n)),())⟩:=by
     intro d hdd
     subst hdd
     rw[hd] at hlen ⊢
     rw[List.length_cons] at hlen
     simp only[Z90.j1_eq _ qag]
     refine qaA (decide_eq_true (by simp only[List.length_singleton];omega)) ?_
     rw[qkB hl10,qaq (n:=Int.tdiv m 10) (by omega) (by omega)]
     have h2:=ih (Int.tdiv m 10) (o++[((48+m.natAbs%10:Nat):Int)]) (by omega) (by omega) (by rw[t1,List.length_append,List.length_singleton];omega)
     rw[t1] at h2
     rw[show o++((48+m.natAbs%10:Nat):Int)::dgs (m.natAbs / 10)=o++[((48+m.natAbs%10:Nat):Int)]++dgs (m.natAbs / 10) by simp]
     exact h2
    refine qaF (by rw[bne_iff_ne];exact hz) (qda (fun h=>?_) fun h=>?_)
    ·refine go _ ?_
     rw[qaq (by omega) (by omega)];omega
    ·exact go _ (by omega)
 have h1:=key n.natAbs n [] (Nat.le_refl _) hn (by simpa using hrl)
 rw[List.nil_append] at h1
 exact Ev.start (p:=fun φ q=>Z90.l0 (mkR (run E (φ 0))) (φ 0) q n n []=_) 1 h1 (fun _ _ _ h=>h)
end VeT
open Go Go.Proofs Ve
namespace VeT
def SD(c:List Sim)(st:Sim)(d:Int):Int:=qiS c st d (qbv c d c.length).length
def SK(c:List Sim)(st:Sim):Prop:=st.length=c.length∧(∀ x∈st,0≤x∧x≤3)∧∀ d:Nat,d<4→SD c st (d:Int)≤32
theorem qfA(n:Int):Ret E n_Z20 [dI n] ⟨o_Z20,(!pb (0≤n∧n≤3),())⟩:=by
 refine qao ?_
 simp only[run_Z20,Z20.ev]
 exact qac (qbR _ _ _) qan
theorem qgu(c:List Sim)(st:Sim)(hc:Sm yK c)(hs:st.length≤1048576):Ret E n_Z19 [dLL c,dL st] ⟨o_Z19,(pb (SK c st),())⟩:=by
  refine qao ?_
  simp only[run_Z19,Z19.ev]
  refine qcm (fun h=>?_) fun h=>?_
  · simp only[Z19.j0_eq _ qag,cond_true]
    have h:¬ (st.length:Int)=c.length:=by simpa using h
    rw[qap fun hk=>h (by rw[hk.1])];(first | exact qan | exact Ev.of fun _=>trivial)
  have hl : st.length = c.length := by have : (st.length : Int) = c.length := by simpa using h
                                       omega
  refine qac (qaU st _ hs fun x _=>qfA x) ?_
  simp only[Z19.j0_eq _ qag]
  have e:=qgL (s:=st) (P:=fun x=>0≤x∧x≤3)
  refine qcm (fun h=>?_) fun h=>?_
  · simp only[h] at e
    rw[qap fun hk=>qa5.1 e.symm hk.2.1];(first | exact qan | exact Ev.of fun _=>trivial)
  · simp only[h] at e
    have hst:∀ x∈st,0≤x∧x≤3:=qaz.1 e.symm
    refine Ev.start (p:=fun φ n=>Z19.l1 (mkR (run E (φ 0))) (φ 0) n st 0 c=_) 1 ?_ (fun _ _ _ h=>h)
    refine(qcF 1 (L:=fun φ n k=>Z19.l1 (mkR (run E (φ 0))) (φ 0) n st k c) (len:=4) 0 (by omega) (fun d=>SD c st (d:Int)≤32) (fun b=>some ⟨o_Z19,(b,())⟩) (fun _ _ _ _=>rfl) (fun k h1 h2 hP _=>?_) (fun k r h1 h2 hP _ ih=>?_) (fun _=>?_)).to ?_
    · simp only[Z19.l1_succ _ qag]
      exact qaF (decide_eq_true (by omega)) (qac (qeD c st _ _ _ hc hl hst (by omega)) (qaF (decide_eq_true (Int.not_le.1 hP)) qan))
    · simp only[Z19.l1_succ _ qag]
      refine qaF (decide_eq_true (by omega)) (qac (qeD c st _ _ _ hc hl hst (by omega)) (qaL (decide_eq_false (Int.not_lt.2 hP)) ?_))
      rw[qai (by omega)];exact ih
    · simp only[Z19.l1_succ _ qag]
      exact qaL (decide_eq_false (by omega)) qan
    · exact congrArg (fun b:Bool=>some (⟨o_Z19,(b,())⟩:Dv)) (qaC ⟨fun h=>⟨hl,hst,fun d hd=>h d (by omega) hd⟩,fun h d _ hd=>h.2.2 d hd⟩)
theorem qgN(c:List Sim)(st:Sim)(hc:Sm yK c)(hs:st.length≤1048576):Ret E n_Z110 [dC (c,()),dL st] ⟨o_Z110,(pb (SK c st),())⟩:=by
 refine qao ?_
 simp only[run_Z110,Z110.ev]
 refine qac (qdI st _ _ hs (by omega)) (qcm (fun h=>?_) fun h=>?_)
 ·have h:=qa5.1 (show pb (qhT st 4∧(st.length:Int)=c.length)=false by simpa using h)
  rw[qap fun hk=>h ⟨hk.2.1,by rw[hk.1]⟩];(first | exact qan | exact Ev.of fun _=>trivial)
 ·have h:=qaz.1 (show pb (qhT st 4∧(st.length:Int)=c.length)=true by simpa using h)
  have hl:st.length=c.length:=by have:=h.2;omega
  have hst:∀ x∈st,0≤x∧x≤3:=h.1
  refine Ev.start (p:=fun φ n=>Z110.l0 (mkR (run E (φ 0))) (φ 0) n (c,()) st 0=_) 1 ?_ (fun _ _ _ h=>h)
  refine(qcF 1 (L:=fun φ n k=>Z110.l0 (mkR (run E (φ 0))) (φ 0) n (c,()) st k) (len:=4) 0 (by omega) (fun d=>SD c st (d:Int)≤32) (fun b=>some ⟨o_Z110,(b,())⟩) (fun _ _ _ _=>rfl) (fun k h1 h2 hP _=>?_) (fun k r h1 h2 hP _ ih=>?_) (fun _=>?_)).to ?_
  ·simp only[Z110.l0_succ _ qag]
   exact qaF (decide_eq_true (by omega)) (qac (qgj c st _ hc hl hst (by omega)) (qaF (decide_eq_true (Int.not_le.1 hP)) qan))
  ·simp only[Z110.l0_succ _ qag]
   refine qaF (decide_eq_true (by omega)) (qac (qgj c st _ hc hl hst (by omega)) (qaL (decide_eq_false (Int.not_lt.2 hP)) ?_))
   rw[qai (by omega)];exact ih
  ·simp only[Z110.l0_succ _ qag]
   exact qaL (decide_eq_false (by omega)) qan
  ·exact congrArg (fun b:Bool=>some (⟨o_Z110,(b,())⟩:Dv)) (qaC ⟨fun h=>⟨hl,hst,fun d hd=>h d (by omega) hd⟩,fun h d _ hd=>h.2.2 d hd⟩)
noncomputable def qbo(c:List Sim)(k:Nat):List Int:=(qbB (c.getD k [])).map (qcO c)
theorem qkA{c:List Sim}{s:Sim}:qcO c s<c.length∧-1≤qcO c s:=by
 unfold qcO qh6
 cases h:c.findIdx? (fun x=>pb (x=s)) with
 | none=>simp only[o2i];omega
 | some k =>
  rw[List.findIdx?_eq_some_iff_getElem] at h
  obtain⟨h,_⟩:=h
  simp only[o2i];omega
theorem qbE{c:List Sim}{k:Nat}:(qbo c k).length=if 1<(c.getD k []).length then(c.getD k []).length else 0:=by
 unfold qbo qbB
 rw[List.length_map]
 split<;>simp
theorem qhb{c:List Sim}(h:VC c){k:Nat}(hk:k<c.length){x:Int}(hx:x∈qbo c k):0≤x∧x<c.length:=by
 unfold qbo at hx
 rw[List.mem_map] at hx
 obtain⟨f,hf,rfl⟩:=hx
 exact⟨qbI.2 (h.2.2.2 k hk f hf),qkA.1⟩
theorem qe8(c:List Sim)(k:Nat)(hk:k<c.length)(hc:Sm yK c)(hs:Srt c):Ret E n_Z23 [dLL c,dI (k:Int)] ⟨o_Z23,(qbo c k,())⟩:=by
 have hks:(c[k]).length≤1048576:=(qbh hc hk).1
 have hfl:=qey (s:=c[k])
 refine qao ?_
 simp only[run_Z23,Z23.ev]
 refine qaf (qah hk) (qac (qds _ hks) ?_)
 refine Ev.start (p:=fun φ n=>Z23.l0 (mkR (run E (φ 0))) (φ 0) n (qbB c[k]) ((qbB c[k]).length:Int) 0 c []=_) 1 ?_ (fun _ _ _ h=>h)
 refine qav 1 (L:=fun φ n j a=>Z23.l0 (mkR (run E (φ 0))) (φ 0) n (qbB c[k]) ((qbB c[k]).length:Int) j c a) (len:=(qbB c[k]).length) (fun j=>((qbB c[k]).take j).map (qcO c)) (fun _ _ _ _ _=>rfl) (fun j r hj ih=>?_) ?_
 ·simp only[Z23.l0_succ _ qag]
  rw[List.take_succ_eq_append_getElem hj,List.map_append] at ih
  refine qaF (decide_eq_true (by omega)) (qaf (qah hj) (qac (qfG c _ hc hs) (qaA (by simp;omega) ?_)))
  rw[qai (by omega)];exact ih
 ·simp only[Z23.l0_succ _ qag]
  refine qaL (decide_eq_false (by omega)) (qaj ?_)
  rw[List.take_of_length_le (Nat.le_refl _),qbo,qal hk]
theorem qhO(c:List Sim)(k:Nat)(hk:k<c.length)(hc:Sm yK c):Ret E n_Z97 [dC (c,()),dI (k:Int)] ⟨o_Z97,(qbo c k,())⟩:=by
 have hks:(c[k]).length≤1048576:=(qbh hc hk).1
 refine qao ?_
 simp only[run_Z97,Z97.ev]
 refine qaf (qah hk) ?_
 refine Ev.start (p:=fun φ n=>Z97.l0 (mkR (run E (φ 0))) (φ 0) n (c,()) c[k] 0 []=_) 1 ?_ (fun _ _ _ h=>h)
 by_cases hlen:1<(c[k]).length
 ·refine qav 1 (L:=fun φ n j a=>Z97.l0 (mkR (run E (φ 0))) (φ 0) n (c,()) c[k] j a) (len:=(c[k]).length) (fun j=>(List.range j).map fun i=>qcO c ((c[k]).eraseIdx i)) (fun _ _ _ _ _=>rfl) (fun j r hj ih=>?_) ?_
  ·simp only[Z97.l0_succ _ qag]
   rw[List.range_succ,List.map_append] at ih
   refine qaF (decide_eq_true (by omega)) ?_
   simp only[show decide (((c[k]).length:Int)>1)=true from decide_eq_true (by omega),Z97.j1_eq _ qag,cond_true]
   refine qac (qdC _ j hj hks) (qac (qdA (c,()) _ hc) (qaA (by simp;omega) ?_))
   rw[qai (by omega)];exact ih
  ·simp only[Z97.l0_succ _ qag]
   refine qaL (decide_eq_false (by omega)) ?_
   simp only[Z97.j1_eq _ qag,cond_false]
   refine qaj ?_
   rw[qbo,qal hk,qbB,if_pos hlen,List.map_map];rfl
 ·refine Ev.round 1 (L:=fun φ n=>Z97.l0 (mkR (run E (φ 0))) (φ 0) n (c,()) c[k] 0 []) ?_ (fun _ _ _=>rfl)
  have hj:Ev fun φ=>Z97.j1 (mkR (run E (φ 0))) (φ 0) (φ 1) (c,()) c[k] 0 false []=some ⟨o_Z97,(qbo c k,())⟩:=by
   simp only[Z97.j1_eq _ qag,cond_false]
   refine qaj ?_
   rw[qbo,qal hk,qbB,if_neg hlen];rfl
  simp only[Z97.l0_succ _ qag]
  refine qda (fun _=>?_) fun _=>hj
  simp only[show decide (((c[k]).length:Int)>1)=false from decide_eq_false (by omega)]
  exact hj
abbrev Arw:=Int×Int×Int×Unit
noncomputable def qkf(c:List Sim)(k i:Nat):List Arw:=(List.range i).map fun(j:Nat)=>((k:Int),(j:Int),(qbo c k).getD j 0,())
noncomputable def qdz(c:List Sim):Nat→List Arw
 | 0=>[]
 | k+1=>qdz c k++qkf c k (qbo c k).length
noncomputable def plc(c:List Sim)(k:Nat):Nat:=(qdz c k).length
theorem qdv{c:List Sim}{k i:Nat}:(qkf c k i).length=i:=by simp[qkf]
theorem qiT{c:List Sim}{k:Nat}:plc c (k+1)=plc c k+(qbo c k).length:=by
 unfold plc;rw[qdz,List.length_append,qdv]
theorem VC.len4{c:List Sim}(h:VC c){k:Nat}(hk:k<c.length):(c.getD k []).length≤4:=(h.2.1 k hk).2.1
theorem VC.fIdx4{c:List Sim}(h:VC c){k:Nat}(hk:k<c.length):(qbo c k).length≤4:=by
 have:=h.len4 hk
 rw[qbE];split<;>omega
theorem VC.plc{c:List Sim}(h:VC c):∀ {k:Nat},k≤c.length→plc c k≤4*k
 | 0,_=>by simp[VeT.plc,qdz]
 | k+1,hk=>by
  have h1:=h.plc (k:=k) (by omega)
  have h2:=h.fIdx4 (k:=k) (by omega)
  rw[qiT];omega
theorem qc7{c:List Sim}:∀ {n k i:Nat},k<n→i<(qbo c k).length→(qdz c n)[plc c k+i]? = some ((k:Int),(i:Int),(qbo c k).getD i 0,())
 | 0,_,_,h,_=>by omega
 | n+1,k,i,h,hi=>by
  rw[qdz]
  by_cases hk:k<n
  ·have:=qc7 hk hi
   have hl:=(List.getElem?_eq_some_iff.1 this).1
   rw[List.getElem?_append_left hl];exact this
  ·obtain rfl:k=n:=by omega
   rw[List.getElem?_append_right (by unfold plc;omega)]
   rw[show plc c k+i-(qdz c k).length=i by unfold plc;omega]
   simp[qkf,hi]
theorem qgv{c:List Sim}:∀ {n t:Nat},t<(qdz c n).length→∃ k i,k<n∧i<(qbo c k).length∧t=plc c k+i
 | 0,_,h=>by simp[qdz] at h
 | n+1,t,h=>by
  by_cases ht:t<(qdz c n).length
  ·obtain⟨k,i,h1,h2,h3⟩:=qgv ht
   exact⟨k,i,by omega,h2,h3⟩
  ·rw[qdz,List.length_append,qdv] at h
   exact⟨n,t-(qdz c n).length,by omega,by omega,by unfold plc;omega⟩
theorem qi8(c:List Sim)(hc:Sm yK c)(hv:VC c):Ret E n_Z21 [dLL c] ⟨o_Z21,(qdz c c.length,())⟩:=by
 have hs:=hv.srt
 have h48:=hv.1
 refine qao ?_
 simp only[run_Z21,Z21.ev]
 refine qac (qhX _) ?_
 refine Ev.start (p:=fun φ n=>Z21.l0 (mkR (run E (φ 0))) (φ 0) n (c.length:Int) 0 c []=_) 1 ?_ (fun _ _ _ h=>h)
 refine qav 1 (L:=fun φ n k a=>Z21.l0 (mkR (run E (φ 0))) (φ 0) n (c.length:Int) k c a) (len:=c.length) (fun k=>qdz c k) (fun _ _ _ _ _=>rfl) (fun k r hk ih=>?_) ?_
 ·simp only[Z21.l0_succ _ qag]
  have hpl:=hv.plc (k:=k) (by omega)
  have hf4:=hv.fIdx4 hk
  refine qaF (decide_eq_true (by omega)) (qac (qe8 c k hk hc hs) ?_)
  refine Ev.start (p:=fun φ n=>Z21.l1 (mkR (run E (φ 0))) (φ 0) (φ 1) n (k:Int) (c.length:Int) (k:Int) (qbo c k) ((qbo c k).length:Int) 0 c (qdz c k)=_) 2 ?_ (fun _ _ _ h=>h)
  have:=qav 2 (L:=fun φ n j a=>Z21.l1 (mkR (run E (φ 0))) (φ 0) (φ 1) n (k:Int) (c.length:Int) (k:Int) (qbo c k) ((qbo c k).length:Int) j c a) (len:=(qbo c k).length) (fun j=>qdz c k++qkf c k j) (r:=r) (fun _ _ _ _ _=>rfl) (fun j r hj ih=>?_) ?_
  ·simpa [qkf] using this
  ·simp only[Z21.l1_succ _ qag]
   refine qaF (decide_eq_true (by omega)) (qaf (qah hj) (qaA (decide_eq_true ?_) ?_))
   ·rw[List.length_append,qdv];show(_+_+1)*24≤_
    have:(qdz c k).length=plc c k:=rfl
    omega
   ·rw[qai (by omega)]
    have e:qkf c k (j+1)=qkf c k j++[((k:Int),(j:Int),(qbo c k)[j],())]:=by
     unfold qkf;rw[List.range_succ,List.map_append];simp[List.getD_eq_getElem?_getD,hj]
    rw[e,← List.append_assoc] at ih
    exact ih
  ·simp only[Z21.l1_succ _ qag]
   refine qaL (decide_eq_false (by omega)) ?_
   rw[qai (by omega)];exact ih
 ·simp only[Z21.l0_succ _ qag]
  exact qaL (decide_eq_false (by omega)) qan
theorem qez(c:List Sim)(k i:Nat)(hk:k≤c.length)(hi:i≤1048576)(hv:VC c):Ret E n_Z109 [dC (c,()),dI (k:Int),dI (i:Int)] ⟨o_Z109,(((plc c k+i:Nat):Int),())⟩:=by
 have h48:=hv.1
 refine qao ?_
 simp only[run_Z109,Z109.ev]
 refine Ev.start (p:=fun φ n=>Z109.l0 (mkR (run E (φ 0))) (φ 0) n (c,()) (k:Int) (i:Int) 0 0=_) 1 ?_ (fun _ _ _ h=>h)
 have:=qav 1 (L:=fun φ n j a=>Z109.l0 (mkR (run E (φ 0))) (φ 0) n (c,()) (k:Int) (i:Int) a j) (len:=k) (fun j=>((plc c j:Nat):Int)) (r:=some ⟨o_Z109,(((plc c k+i:Nat):Int),())⟩) (fun _ _ _ _ _=>rfl) (fun j r hj ih=>?_) ?_
 ·exact this
 ·simp only[Z109.l0_succ _ qag]
  have hjc:j<c.length:=by omega
  have hpl:=hv.plc (k:=j) (by omega)
  have h4:=hv.len4 hjc
  have e:=qiT (c:=c) (k:=j)
  rw[qbE] at e
  rw[qal hjc] at e h4
  refine qaF (decide_eq_true (by omega)) (qaf (qah hjc) (qda (fun hl=>qaf (qah hjc) ?_) fun hl=>?_))
  ·rw[if_pos (by omega)] at e
   rw[qai (by omega),qaq (by omega) (by omega)]
   rw[e] at ih
   simpa using ih
  ·rw[if_neg (by omega)] at e
   rw[qai (by omega)]
   rw[e] at ih;exact ih
 ·simp only[Z109.l0_succ _ qag]
  have hpl:=hv.plc hk
  refine qaL (decide_eq_false (by omega)) (qaj ?_)
  rw[qaq (by omega) (by omega)]
  simp
theorem qhm(c:List Sim)(hv:VC c):Ret E n_Z106 [dC (c,())] ⟨o_Z106,(((plc c c.length:Nat):Int),())⟩:=by
 refine qao ?_
 simp only[run_Z106,Z106.ev]
 exact qac (qez c c.length 0 (Nat.le_refl _) (by omega) hv) qan
end VeT
open Go Go.Proofs Ve
namespace VeT
def mz:Mat:=(0,0,0,[],())
def QB(p:Int)(st:Sim)(ms:List Mat)(t k:Nat)(f:Int):Prop:=Bt (ms.getD t mz) p (st.getD f.toNat 0) (st.getD k 0)
def VS(c:List Sim)(p:Int)(st:Sim)(ms:List Mat):Prop:=VC c∧Pr p∧SK c st∧plc c c.length=ms.length∧∀ k,k<c.length→∀ i,i<(qbo c k).length→QB p st ms (plc c k+i) k ((qbo c k).getD i 0)
def az:Arw:=(0,0,0,())
def QA(p:Int)(st:Sim)(ms:List Mat)(t:Nat)(a:Arw):Prop:=t<ms.length∧Bt (ms.getD t mz) p (st.getD a.2.2.1.toNat 0) (st.getD a.1.toNat 0)
theorem qjL{c:List Sim}{p:Int}{st:Sim}{ms:List Mat}(hl:plc c c.length=ms.length) :
  (∀ t,0≤t→t<plc c c.length→QA p st ms t ((qdz c c.length).getD t az))↔∀ k,k<c.length→∀ i,i<(qbo c k).length→QB p st ms (plc c k+i) k ((qbo c k).getD i 0):=by
 constructor
 ·intro h k hk i hi
  have hg:=qc7 hk hi
  have hlt:=(List.getElem?_eq_some_iff.1 hg).1
  have:=h (plc c k+i) (by omega) hlt
  rw[List.getD_eq_getElem?_getD,hg] at this
  exact this.2
 ·intro h t _ ht
  obtain⟨k,i,hk,hi,rfl⟩:=qgv ht
  have hg:=qc7 hk hi
  have:=h k hk i hi
  rw[List.getD_eq_getElem?_getD,hg]
  exact⟨by omega,this⟩
theorem qjN{ms:List Mat}(h:Sm (.sl (.st cM)) ms){t:Nat}(ht:t<ms.length):Sm (.st cM) ms[t]:=h.2 _ (List.getElem_mem ht)
theorem qdW(c:List Sim)(p:Int)(st:Sim)(ms:List Mat)(hc:Sm yK c)(hst:st.length≤1048576)(hm:Sm (.sl (.st cM)) ms) :
    Ret E n_Z14 [dLL c,dI p,dL st,dMs ms] ⟨o_Z14,(pb (VS c p st ms),())⟩:=by
  have hm1:ms.length≤1048576:=hm.1
  refine qao ?_
  simp only[run_Z14,Z14.ev]
  have no:¬ VS c p st ms→Ev fun φ=>Z14.j0 (mkR (run E (φ 0))) (φ 0) true c p st ms=some ⟨o_Z14,(pb (VS c p st ms),())⟩:=fun h=>by
    simp only[Z14.j0_eq _ qag,cond_true]
    rw[qap h];(first | exact qan | exact Ev.of fun _=>trivial)
  refine qac (qcC c hc) (qcm (fun h=>no fun hv=>qa5.1 (show pb (VC c)=false by simpa using h) hv.1) fun h=>?_)
  have hv:VC c:=qaz.1 (by simpa using h)
  refine qac (qdg p) (qcm (fun h=>no fun hv=>qa5.1 (show pb (Pr p)=false by simpa using h) hv.2.1) fun h=>?_)
  have hp:Pr p:=qaz.1 (by simpa using h)
  refine qac (qgu c st hc hst) ?_
  by_cases hk:SK c st
  · simp only[qaE hk,Bool.not_true,Z14.j0_eq _ qag,cond_false]
    refine qac (qi8 c hc hv) ?_
    have hpl:=hv.plc (Nat.le_refl _)
    have h48:=hv.1
    refine Ev.start (p:=fun φ n=>Z14.l1 (mkR (run E (φ 0))) (φ 0) n (qdz c c.length) (qdz c c.length) ((qdz c c.length).length:Int) 0 c p st ms=_) 1 ?_ (fun _ _ _ h=>h)
    have get:∀ t (ht:t<plc c c.length),∃ k i,k<c.length∧i<(qbo c k).length∧(qdz c c.length)[t]? = some ((k:Int),(i:Int),(qbo c k).getD i 0,())∧((qbo c k).getD i 0).toNat<st.length∧0≤(qbo c k).getD i 0:=fun t ht=>by
      obtain⟨k,i,hk',hi,rfl⟩:=qgv ht
      have hb:=qhb hv hk' (List.getElem_mem hi)
      exact⟨k,i,hk',hi,qc7 hk' hi,by rw[qal hi,hk.1];omega,by rw[qal hi];omega⟩
    refine(qcF 1 (L:=fun φ n t=>Z14.l1 (mkR (run E (φ 0))) (φ 0) n (qdz c c.length) (qdz c c.length) ((qdz c c.length).length:Int) t c p st ms) (len:=plc c c.length) 0 (by omega) (fun t=>QA p st ms t ((qdz c c.length).getD t az)) (fun b=>some ⟨o_Z14,(b&&((plc c c.length:Int)==(ms.length:Int)),())⟩) (fun _ _ _ _=>rfl) (fun t h1 h2 hP _=>?_) (fun t r h1 h2 hP _ ih=>?_) (fun _=>?_)).to ?_
    · simp only[Z14.l1_succ _ qag]
      obtain⟨k,i,hkc,hi,hg,hf,hf0⟩:=get t h2
      have hlt:t<(qdz c c.length).length:=h2
      have hgt:(qdz c c.length)[t]=((k:Int),(i:Int),(qbo c k).getD i 0,()):=by
        rw[List.getElem?_eq_getElem hlt] at hg;exact Option.some.inj hg
      refine qaF (decide_eq_true (by omega)) (qaf (qah hlt) ?_)
      rw[qal hlt] at hP
      rw[hgt] at hP ⊢
      refine qda (fun hge=>?_) fun hge=>?_
      · simp only[Z14.j2_eq _ qag,cond_true];(first | exact qan | exact Ev.of fun _=>trivial)
      · have htm:t<ms.length:=by omega
        refine qaf (qah htm) ?_
        simp only
        rw[show(qbo c k).getD i 0=((((qbo c k).getD i 0).toNat:Nat):Int) by omega]
        refine qaf (qah hf) (qaf (qah (show k<st.length by rw[hk.1];exact hkc)) (qac (qdP _ _ _ _ (qjN hm htm)) ?_))
        have:¬ Bt ms[t] p st[((qbo c k).getD i 0).toNat] (st[k]'(by rw[hk.1];exact hkc)):=fun hb=>hP ⟨htm,by
          simp only[Int.toNat_natCast]
          rw[qal htm,qal hf,qal (s:=st) (k:=k) (by rw[hk.1];exact hkc)];exact hb⟩
        simp only[qap this,Bool.not_false,Z14.j2_eq _ qag,cond_true];(first | exact qan | exact Ev.of fun _=>trivial)
    · simp only[Z14.l1_succ _ qag]
      obtain⟨k,i,hkc,hi,hg,hf,hf0⟩:=get t h2
      have hlt:t<(qdz c c.length).length:=h2
      have hgt:(qdz c c.length)[t]=((k:Int),(i:Int),(qbo c k).getD i 0,()):=by
        rw[List.getElem?_eq_getElem hlt] at hg;exact Option.some.inj hg
      refine qaF (decide_eq_true (by omega)) (qaf (qah hlt) ?_)
      rw[qal hlt] at hP
      rw[hgt] at hP ⊢
      obtain⟨htm,hb⟩:=hP
      refine qaL (decide_eq_false (by omega)) (qaf (qah htm) ?_)
      simp only
      rw[show(qbo c k).getD i 0=((((qbo c k).getD i 0).toNat:Nat):Int) by omega]
      refine qaf (qah hf) (qaf (qah (show k<st.length by rw[hk.1];exact hkc)) (qac (qdP _ _ _ _ (qjN hm htm)) ?_))
      simp only[Int.toNat_natCast] at hb
      rw[qal htm,qal hf,qal (s:=st) (k:=k) (by rw[hk.1];exact hkc)] at hb
      simp only[qaE hb,Bool.not_true,Z14.j2_eq _ qag,cond_false]
      rw[qai (by omega)];exact ih
    · simp only[Z14.l1_succ _ qag]
      exact qaL (decide_eq_false (by show ¬ ((plc c c.length:Nat):Int)<((plc c c.length:Nat):Int);omega)) (qaj (by rw[Bool.true_and];rfl))
    · have:(pb (∀ t,0≤t→t<plc c c.length→QA p st ms t ((qdz c c.length).getD t az))&&((plc c c.length:Int)==(ms.length:Int)))=pb (VS c p st ms):=qfU (by
        rw[Bool.and_eq_true,qaz,beq_iff_eq]
        constructor
        · rintro⟨h1,h2⟩
          have h2:plc c c.length=ms.length:=by omega
          exact⟨hv,hp,hk,h2,(qjL h2).1 h1⟩
        · rintro⟨_,_,_,h2,h1⟩
          exact⟨(qjL h2).2 h1,by omega⟩)
      rw[this]
  · simp only[qap hk,Bool.not_false]
    exact no fun hv=>hk hv.2.2.1
theorem qi3(x:Shf)(k i:Nat)(m:Mat)(hv:VC x.1)(hk:SK x.1 x.2.2.1)(hkc:k<x.1.length)(hi:i<(qbo x.1 k).length)(hc:Sm yK x.1)(hm:Sm (.st cM) m) :
  Ret E n_Z107 [dS x,dI (k:Int),dI (i:Int),dM m] ⟨o_Z107,(pb (Bt m x.2.1 (x.2.2.1.getD ((qbo x.1 k).getD i 0).toNat 0) (x.2.2.1.getD k 0)),())⟩:=by
 have hb:=qhb hv hkc (List.getElem_mem hi)
 have hks:k<x.2.2.1.length:=by rw[hk.1];exact hkc
 have hfs:((qbo x.1 k)[i]).toNat<x.2.2.1.length:=by rw[hk.1];omega
 rw[qal hi,qal hks,qal hfs]
 refine qao ?_
 simp only[run_Z107,Z107.ev]
 refine qac (qhO x.1 k hkc hc) (qaf (qah hi) (qac (qjA m hm) (qcm (fun h1=>qcm (fun h2=>qaf (qah hks) (qcm (fun h3=>?_) fun h3=>qaj ?_)) fun h2=>qaj ?_) fun h1=>qaj ?_)))
 ·have e:(qbo x.1 k)[i]=((((qbo x.1 k)[i]).toNat:Nat):Int):=by omega
  refine qaf ((congrArg (idx? x.2.2.1) e).trans (qah hfs)) (qaj ?_)
  have:(m.2.2.1==x.2.2.1[((qbo x.1 k)[i]).toNat])=pb (Bt m x.2.1 x.2.2.1[((qbo x.1 k)[i]).toNat] x.2.2.1[k]):=qfU (by
   rw[beq_iff_eq];exact⟨fun h=>⟨qaz.1 h1,by simpa using h2,by simpa using h3,h⟩,fun h=>h.2.2.2⟩)
  simp only[this]
 ·rw[qap fun h=>by have:=h.2.2.1;simp[this] at h3]
 ·rw[qap fun h=>by have:=h.2.1;simp[this] at h2]
 ·rw[qap fun h=>qa5.1 h1 h.1]
theorem qjJ(x:Shf)(hx:Sm (.st cS) x):Ret E n_Z108 [dS x] ⟨o_Z108,(pb (VS x.1 x.2.1 x.2.2.1 x.2.2.2.1),())⟩:=by
 have hc:Sm yK x.1:=hx.1
 have hm:Sm (.sl (.st cM)) x.2.2.2.1:=hx.2.2.2.1
 have hst:x.2.2.1.length≤1048576:=hx.2.2.1.1
 refine qao ?_
 simp only[run_Z108,Z108.ev]
 have no:¬ VS x.1 x.2.1 x.2.2.1 x.2.2.2.1→Ev fun φ=>Z108.j0 (mkR (run E (φ 0))) (φ 0) x true=some ⟨o_Z108,(pb (VS x.1 x.2.1 x.2.2.1 x.2.2.2.1),())⟩:=fun h=>by
  simp only[Z108.j0_eq _ qag,cond_true]
  rw[qap h];(first | exact qan | exact Ev.of fun _=>trivial)
 refine qac (qjU (x.1,()) hc) (qcm (fun h=>no fun hv=>qa5.1 (show pb (VC x.1)=false by simpa using h) hv.1) fun h=>?_)
 have hv:VC x.1:=qaz.1 (show pb (VC x.1)=true by simpa using h)
 refine qac (qb6 _) (qcm (fun h=>no fun hv=>qa5.1 (show pb (Pr x.2.1)=false by simpa using h) hv.2.1) fun h=>?_)
 have hp:Pr x.2.1:=qaz.1 (by simpa using h)
 refine qac (qgN x.1 x.2.2.1 hc hst) (qcm (fun h=>no fun hv=>qa5.1 (show pb (SK x.1 x.2.2.1)=false by simpa using h) hv.2.2.1) fun h=>?_)
 have hk:SK x.1 x.2.2.1:=qaz.1 (by simpa using h)
 refine qac (qhm x.1 hv) ?_
 by_cases hl:plc x.1 x.1.length=x.2.2.2.1.length
 ·have h48:=hv.1
  simp only[show((x.2.2.2.1.length:Int) != ((plc x.1 x.1.length:Nat):Int))=false by simp[hl],Z108.j0_eq _ qag,cond_false]
  refine Ev.start (p:=fun φ n=>Z108.l1 (mkR (run E (φ 0))) (φ 0) n x 0=_) 1 ?_ (fun _ _ _ h=>h)
  let P:Nat→Prop:=fun k=>∀ i,i<(qbo x.1 k).length→QB x.2.1 x.2.2.1 x.2.2.2.1 (plc x.1 k+i) k ((qbo x.1 k).getD i 0)
  have inner:∀(k:Nat) (h2:k<x.1.length) (r:Option Dv),(P k→Ev fun φ=>Z108.l1 (mkR (run E (φ 0))) (φ 0) (φ 1) x ((k+1:Nat):Int)=r)→(¬ P k→r=some ⟨o_Z108,(false,())⟩)→Ev fun φ=>Z108.l2 (mkR (run E (φ 0))) (φ 0) (φ 1) (φ 0) x (k:Int) 0=r:=fun k h2 r hgo hstop=>by
   have h4:=hv.len4 h2
   have hfl:=qbE (c:=x.1) (k:=k)
   rw[qal h2] at h4 hfl
   refine Ev.start (p:=fun φ n=>Z108.l2 (mkR (run E (φ 0))) (φ 0) (φ 1) n x (k:Int) 0=_) 2 ?_ (fun _ _ _ h=>h)
   by_cases hlen:1<(x.1[k]).length
   ·rw[if_pos hlen] at hfl
    have mapAt:∀ i (hi:i<(qbo x.1 k).length),∃ ht:plc x.1 k+i<x.2.2.2.1.length,∀ R,(Ev fun φ=>(bif (!pb (Bt x.2.2.2.1[plc x.1 k+i] x.2.1 (x.2.2.1.getD ((qbo x.1 k).getD i 0).toNat 0) (x.2.2.1.getD k 0))) then some ⟨o_Z108,(false,())⟩ else Z108.l2 (mkR (run E (φ 0))) (φ 0) (φ 1) (φ 2) x (k:Int) (w64 ((i:Int)+1)))=R)→Ev fun φ=>Z108.j3 (mkR (run E (φ 0))) (φ 0) (φ 1) (φ 2) x (k:Int) (i:Int) true=R:=fun i hi=>by
     have hg:=qc7 h2 hi
     have hlt:=(List.getElem?_eq_some_iff.1 hg).1
     have ht:plc x.1 k+i<x.2.2.2.1.length:=by rw[← hl];exact hlt
     refine⟨ht,fun R hR=>?_⟩
     simp only[Z108.j3_eq _ qag,cond_true]
     refine qac (qez x.1 k i (by omega) (by omega) hv) (qaf (qah ht) (qac (qi3 x k i _ hv hk h2 hi hc (qjN hm ht)) hR))
    obtain⟨t,f⟩:=qgE 2 (L:=fun φ n i=>Z108.l2 (mkR (run E (φ 0))) (φ 0) (φ 1) n x (k:Int) i) (len:=(x.1[k]).length) 0 (by omega) (fun i=>QB x.2.1 x.2.2.1 x.2.2.2.1 (plc x.1 k+i) k ((qbo x.1 k).getD i 0)) (rt:=r) (rf:=some ⟨o_Z108,(false,())⟩) (fun _ _ _ _=>rfl) (fun i _ hi hP _=>by
     obtain⟨ht,hm'⟩:=mapAt i (by omega)
     simp only[Z108.l2_succ _ qag]
     refine qaf (qah h2) (qaF (decide_eq_true (by omega)) (qaf (qah h2) ?_))
     simp only[show decide (((x.1[k]).length:Int)>1)=true from decide_eq_true (by omega)]
     refine hm' _ (qaF ?_ qan)
     rw[qap];· rfl
     intro hb;refine hP ?_
     show Bt _ _ _ _
     rw[qal ht];exact hb) (fun i q _ hi hP _ ih=>by
     obtain⟨ht,hm'⟩:=mapAt i (by omega)
     simp only[Z108.l2_succ _ qag]
     refine qaf (qah h2) (qaF (decide_eq_true (by omega)) (qaf (qah h2) ?_))
     simp only[show decide (((x.1[k]).length:Int)>1)=true from decide_eq_true (by omega)]
     refine hm' _ (qaL ?_ ?_)
     ·have hP:Bt (x.2.2.2.1.getD (plc x.1 k+i) mz) _ _ _:=hP
      rw[qal ht] at hP
      rw[qaE hP];rfl
     ·rw[qai (by omega)];exact ih) (fun hall=>by
     simp only[Z108.l2_succ _ qag]
     refine qaf (qah h2) (qaL (decide_eq_false (by omega)) ?_)
     simp only[Z108.j3_eq _ qag,cond_false]
     rw[qai (by omega)]
     exact hgo fun i hi=>hall i (by omega) (by omega))
    by_cases hall:∀ i,0≤i→i<(x.1[k]).length→QB x.2.1 x.2.2.1 x.2.2.2.1 (plc x.1 k+i) k ((qbo x.1 k).getD i 0)
    ·exact t hall
    ·rw[hstop fun hf=>hall fun i _ hi=>hf i (by omega)]
     exact f hall
   ·rw[if_neg hlen] at hfl
    refine Ev.round 2 (L:=fun φ n=>Z108.l2 (mkR (run E (φ 0))) (φ 0) (φ 1) n x (k:Int) 0) ?_ (fun _ _ _=>rfl)
    have hgo:=hgo fun i hi=>by omega
    have hj:Ev fun φ=>Z108.j3 (mkR (run E (φ 0))) (φ 0) (φ 1) (φ 2) x (k:Int) 0 false=r:=by
     simp only[Z108.j3_eq _ qag,cond_false]
     rw[qai (by omega)];exact hgo
    simp only[Z108.l2_succ _ qag]
    refine qaf (qah h2) (qda (fun _=>qaf (qah h2) ?_) fun _=>hj)
    simp only[show decide (((x.1[k]).length:Int)>1)=false from decide_eq_false (by omega)]
    exact hj
  refine(qcF 1 (L:=fun φ n k=>Z108.l1 (mkR (run E (φ 0))) (φ 0) n x k) (len:=x.1.length) 0 (by omega) P (fun b=>some ⟨o_Z108,(b,())⟩) (fun _ _ _ _=>rfl) (fun k h1 h2 hP hpre=>?_) (fun k r h1 h2 hP hpre ih=>?_) (fun _=>?_)).to ?_
  ·simp only[Z108.l1_succ _ qag]
   exact qaF (decide_eq_true (by omega)) (inner k h2 _ (fun h=>absurd h hP) fun _=>rfl)
  ·simp only[Z108.l1_succ _ qag]
   exact qaF (decide_eq_true (by omega)) (inner k h2 _ (fun _=>ih) fun h=>absurd hP h)
  ·simp only[Z108.l1_succ _ qag]
   exact qaL (decide_eq_false (by omega)) qan
  ·exact congrArg (fun b:Bool=>some (⟨o_Z108,(b,())⟩:Dv)) (qaC ⟨fun h=>⟨hv,hp,hk,hl,fun k hk'=>h k (by omega) hk'⟩,fun h k _ hk'=>h.2.2.2.2 k hk'⟩)
 ·simp only[show((x.2.2.2.1.length:Int) != ((plc x.1 x.1.length:Nat):Int))=true by simp;omega]
  exact no fun h=>hl h.2.2.2.1
end VeT
open Go Go.Proofs Ve
namespace VeT
end VeT
open Go Go.Proofs Ve
namespace VeT
end VeT
open Go Go.Proofs Ve
namespace VeT
theorem qhT.get{v:Sim}{p:Int}(h:qhT v p)(hp:2≤p∧p≤251)(i:Nat):0≤v.getD i 0∧v.getD i 0≤250:=by
 by_cases hi:i<v.length
 ·rw[qal hi]
  have:=h _ (List.getElem_mem hi)
  omega
 ·rw[List.getD_eq_getElem?_getD,List.getElem?_eq_none (by omega)];simp
end VeT
open Go Go.Proofs Ve
namespace VeT
noncomputable def mp(c:List Sim)(ms:List Mat)(k i:Nat):Mat:=ms.getD (plc c k+i) mz
noncomputable def fc(c:List Sim)(k i:Nat):Nat:=((qbo c k).getD i 0).toNat
theorem qjz{c:List Sim}{s:Sim}(h:s∈c):c.getD (qcO c s).toNat []=s:=by
 have h0:=qbI.2 h
 unfold qcO qh6 at h0 ⊢
 cases hf:c.findIdx? (fun x=>pb (x=s)) with
 | none=>rw[hf] at h0;simp[o2i] at h0
 | some k =>
  rw[List.findIdx?_eq_some_iff_getElem] at hf
  obtain⟨hk,hp,_⟩:=hf
  simp only[o2i,Int.toNat_natCast]
  rw[qal hk];exact qaz.1 hp
theorem qkJ{c:List Sim}(h:VC c){k i:Nat}(hk:k<c.length)(hi:i<(qbo c k).length):idx? (qbo c k) (i:Int)=some ((fc c k i:Nat):Int)∧fc c k i<c.length∧c.getD (fc c k i) []=(c.getD k []).eraseIdx i:=by
 have hm:=qhb h hk (List.getElem_mem hi)
 have hl:=qbE (c:=c) (k:=k)
 have h1:1<(c.getD k []).length:=Classical.byContradiction fun hn=>by rw[if_neg hn] at hl;omega
 rw[if_pos h1] at hl
 have hfc:(qbo c k)[i]=qcO c ((c.getD k []).eraseIdx i):=by
  have:(qbo c k)[i]? = some (qcO c ((c.getD k []).eraseIdx i)):=by
   unfold qbo qbB
   rw[if_pos h1,List.map_map,List.getElem?_map,List.getElem?_range (by omega)];rfl
  rw[List.getElem?_eq_getElem hi] at this
  exact Option.some.inj this
 have hin:(c.getD k []).eraseIdx i∈c:=h.2.2.2 k hk _ (qcS.2 ⟨h1,i,by omega,rfl⟩)
 unfold fc
 rw[qal hi]
 refine⟨?_,by omega,?_⟩
 ·rw[qah hi];congr 1;omega
 ·rw[hfc];exact qjz hin
theorem VS.map{c:List Sim}{p:Int}{st:Sim}{ms:List Mat}(h:VS c p st ms){k i:Nat}(hk:k<c.length)(hi:i<(qbo c k).length):plc c k+i<ms.length∧Bt (mp c ms k i) p (st.getD (fc c k i) 0) (st.getD k 0):=by
 have hg:=qc7 hk hi
 have hlt:=(List.getElem?_eq_some_iff.1 hg).1
 exact⟨by rw[← h.2.2.2.1];exact hlt,h.2.2.2.2 k hk i hi⟩
structure Sq (c:List Sim) (p:Int) (st:Sim) (ms:List Mat) (k i j:Nat):Prop where
 kl:k<c.length
 n3:3≤(c.getD k []).length
 il:i<(c.getD k []).length
 jl:j+1<(c.getD k []).length
 v:VS c p st ms
theorem Sq.hi{c p st ms k i j}(h:Sq c p st ms k i j):i<(qbo c k).length:=by
 have:=h.n3;have:=h.il
 rw[qbE,if_pos (by omega)];exact this
theorem Sq.fk{c p st ms k i j}(h:Sq c p st ms k i j):fc c k i<c.length:=(qkJ h.v.1 h.kl h.hi).2.1
theorem Sq.hj{c p st ms k i j}(h:Sq c p st ms k i j):j<(qbo c (fc c k i)).length:=by
 have h1:=h.n3;have h2:=h.il;have h3:=h.jl
 have e:=(qkJ h.v.1 h.kl h.hi).2.2
 rw[qbE,e,List.length_eraseIdx,if_pos h2,if_pos (by omega)];omega
theorem Sq.b1{c p st ms k i j}(h:Sq c p st ms k i j):VM (mp c ms k i):=((h.v.map h.kl h.hi).2).1
theorem Sq.b2{c p st ms k i j}(h:Sq c p st ms k i j):VM (mp c ms (fc c k i) j):=((h.v.map h.fk h.hj).2).1
theorem Sq.sh{c p st ms k i j}(h:Sq c p st ms k i j):(mp c ms k i).2.2.1=(mp c ms (fc c k i) j).2.1:=by
 rw[((h.v.map h.kl h.hi).2).2.2.2,((h.v.map h.fk h.hj).2).2.2.1]
end VeT
open Go Go.Proofs Ve
namespace VeT
def qbk(l:Sim):Tx:=if l=[] then [45] else Go.Lib.join (l.map Go.Lib.itoa) [44]
def qlc(l:Sim):Prop:=l.length≤64∧∀ x∈l,-1000000000000≤x∧x≤1000000000000
open Classical in
noncomputable def qfK(l:Sim):Tx:=if qlc l then qbk l else []
theorem qcu{ls:List Tx}{s:Tx}{b:Nat}(h:∀ x∈ls,x.length≤b):(Go.Lib.join ls s).length≤ls.length*(s.length+b):=by
 have key:∀ r:List Tx,(∀ x∈r,x.length≤b)→(Go.Lib.joinTail s r).length≤r.length*(s.length+b):=by
  intro r
  induction r with
  | nil=>intro _;simp[Go.Lib.joinTail]
  | cons y r ih =>
   intro hr
   have h1:=ih fun x hx=>hr x (List.mem_cons_of_mem _ hx)
   have h2:=hr y List.mem_cons_self
   have e:Go.Lib.joinTail s (y::r)=s++y++Go.Lib.joinTail s r:=by simp[Go.Lib.joinTail]
   rw[e,List.length_append,List.length_append,List.length_cons,Nat.succ_mul]
   omega
 cases ls with
 | nil=>rw[Go.Lib.join_nil];simp
 | cons x r =>
  rw[Go.Lib.join_cons,List.length_append,List.length_cons,Nat.succ_mul]
  have h1:=key r fun y hy=>h y (List.mem_cons_of_mem _ hy)
  have h2:=h x List.mem_cons_self
  omega
theorem qhN{ls:List Tx}{s:Tx}{k:Nat}(hk:k<ls.length):Go.Lib.join (ls.take (k+1)) s=if k=0 then ls[k] else Go.Lib.join (ls.take k) s++s++ls[k]:=by
 cases ls with
 | nil=>simp at hk
 | cons x r =>
  cases k with
  | zero=>rw[if_pos rfl];simp[Go.Lib.join_one]
  | succ k =>
   rw[if_neg (by omega),List.take_succ_cons,List.take_succ_cons,Go.Lib.join_cons,Go.Lib.join_cons]
   have hk':k<r.length:=by simpa using hk
   rw[Go.Lib.joinTail_take_succ s r k r[k] (List.getElem?_eq_getElem hk')]
   simp[List.append_assoc]
theorem qkV(n:Int):Go.Lib.itoa n≠[]:=by
 have h:∀ u,Go.Lib.decDigits u≠[]:=fun u e=>by
  have h1:=Go.Lib.decDigits_length u
  have h2:=Go.Lib.nDigits_pos u
  rw[e] at h1
  simp at h1;omega
 unfold Go.Lib.itoa
 split
 ·simp
 ·exact h _
theorem qjW{ls:List Tx}{s:Tx}(h:ls≠[])(h2:∀ x∈ls,x≠[]):Go.Lib.join ls s≠[]:=by
 cases ls with
 | nil=>exact absurd rfl h
 | cons x r =>
  rw[Go.Lib.join_cons]
  have:=h2 x List.mem_cons_self
  intro e
  exact this (List.append_eq_nil_iff.1 e).1
theorem qkE(l:Sim):qbk l≠[]:=by
 unfold qbk
 split
 ·simp
 ·rename_i h
  exact qjW (by simpa using h) fun x hx=>by
   obtain⟨n,_,rfl⟩:=List.mem_map.1 hx
   exact qkV n
theorem qcl{l:Sim}(h:∀ x∈l,-1000000000000≤x∧x≤1000000000000):(qbk l).length≤1+l.length*22:=by
  unfold qbk
  split
  · simp
  · have:=qcu (ls:=l.map Go.Lib.itoa) (s:=[44]) (b:=21) fun x hx=>by
      obtain⟨n,hn,rfl⟩:=List.mem_map.1 hx
      have:=h n hn
      exact Go.Lib.itoa_length_le n (by omega) (by omega)
    rw[List.length_map,List.length_singleton] at this
    omega
theorem qiC(n:Int):Ret E n_Z33 [dI n] ⟨o_Z33,(pb (-1000000000000≤n∧n≤1000000000000),())⟩:=by
 refine qao ?_
 simp only[run_Z33,Z33.ev]
 exact qac (qbR n (-1000000000000) 1000000000000) qan
theorem qfS(n:Int):Ret E n_Z8 [dI n] ⟨o_Z8,(!pb (-1000000000000≤n∧n≤1000000000000),())⟩:=by
 refine qao ?_
 simp only[run_Z8,Z8.ev]
 exact qac (qiC n) qan
theorem qcP(l:Sim)(hl:l.length≤1048576):Ret E n_Z7 [dL l] ⟨o_Z7,(tx (qfK l),())⟩:=by
 refine qao ?_
 simp only[run_Z7,Z7.ev]
 have bad:¬ qlc l→Ev fun φ=>Z7.j0 (mkR (run E (φ 0))) (φ 0) l true=some ⟨o_Z7,(tx (qfK l),())⟩:=fun h=>by
  simp only[Z7.j0_eq _ qag]
  rw[qfK,if_neg h]
  exact qaF rfl qan
 refine qda (fun h=>bad fun hf=>?_) fun h=>?_
 ·have:=hf.1;omega
 ·refine qac (qaX l _ hl fun x _=>qfS x) ?_
  by_cases hx:∃ x∈l,(!pb (-1000000000000≤x∧x≤1000000000000))=true
  ·rw[qaE hx]
   refine bad fun hf=>?_
   obtain⟨x,h1,h2⟩:=hx
   rw[qaE (hf.2 x h1)] at h2;cases h2
  ·rw[qap hx]
   have hf:qlc l:=⟨by omega,fun x hx2=>Classical.byContradiction fun hn=>hx ⟨x,hx2,by rw[qap hn];rfl⟩⟩
   simp only[Z7.j0_eq _ qag]
   rw[qfK,if_pos hf]
   refine qaL rfl ?_
   by_cases h0:l=[]
   ·subst h0
    exact qaF rfl qan
   ·have hl0:0<l.length:=List.length_pos_iff.2 h0
    refine qaL (by rw[beq_eq_false_iff_ne];omega) ?_
    rw[qbk,if_neg h0]
    refine Ev.start (p:=fun φ n=>Z7.l1 (mkR (run E (φ 0))) (φ 0) n l (l.length:Int) 0 []=_) 1 ?_ (fun _ _ _ h=>h)
    refine qav 1 (L:=fun φ n k o=>Z7.l1 (mkR (run E (φ 0))) (φ 0) n l (l.length:Int) k o) (len:=l.length) (fun k=>((l.map Go.Lib.itoa).take k).map tx) (fun _ _ _ _ _=>rfl) (fun k r hk ih=>?_) ?_
    ·simp only[Z7.l1_succ _ qag]
     have hb:=hf.2 l[k] (List.getElem_mem hk)
     have hlk:(((l.map Go.Lib.itoa).take k).map tx).length=k:=by simp;omega
     refine qaF (decide_eq_true (by omega)) (qaf (qah hk) (qac (qfp l[k] (by omega) (by omega)) (qaA (decide_eq_true (by simp only[hlk,List.length_singleton];have:=hf.1;omega)) ?_)))
     rw[qai (by omega)]
     have e:((l.map Go.Lib.itoa).take (k+1)).map tx=((l.map Go.Lib.itoa).take k).map tx++[tx (Go.Lib.itoa l[k])]:=by
      rw[List.take_succ_eq_append_getElem (by simpa using hk),List.map_append,List.getElem_map];rfl
     rw[e] at ih
     exact ih
    ·simp only[Z7.l1_succ _ qag]
     refine qaL (decide_eq_false (by omega)) ?_
     have e:(l.map Go.Lib.itoa).take l.length=l.map Go.Lib.itoa:=List.take_of_length_le (by simp)
     rw[e]
     have hj:=qcu (ls:=l.map Go.Lib.itoa) (s:=[44]) (b:=21) fun x hx=>by
      obtain⟨n,hn,rfl⟩:=List.mem_map.1 hx
      have:=hf.2 n hn
      exact Go.Lib.itoa_length_le n (by omega) (by omega)
     rw[List.length_map,List.length_singleton] at hj
     have:=hf.1
     exact qac (qgy (l.map Go.Lib.itoa) [44] (by omega) (by simp;omega)) qan
theorem qdo(l:Sim)(hl:l.length≤1048576)(hb:∀ x∈l,-1000000000000≤x∧x≤1000000000000):Ret E n_Z91 [dL l] ⟨o_Z91,(tx (qbk l),())⟩:=by
 refine qao ?_
 simp only[run_Z91,Z91.ev]
 by_cases h0:l=[]
 ·subst h0
  exact qaF rfl qan
 have hl0:0<l.length:=List.length_pos_iff.2 h0
 refine qaL (by rw[beq_eq_false_iff_ne];omega) ?_
 rw[qbk,if_neg h0]
 have hi:∀ k,k<l.length→(Go.Lib.itoa (l.getD k 0)).length≤21:=fun k hk=>by
  rw[qal hk]
  have:=hb l[k] (List.getElem_mem hk)
  exact Go.Lib.itoa_length_le _ (by omega) (by omega)
 have hj:∀ k,k≤l.length→(Go.Lib.join ((l.map Go.Lib.itoa).take k) [44]).length≤k*22:=fun k hk=>by
  have:=qcu (ls:=(l.map Go.Lib.itoa).take k) (s:=[44]) (b:=21) fun x hx=>by
   obtain⟨n,hn,rfl⟩:=List.mem_map.1 (List.mem_of_mem_take hx)
   have:=hb n hn
   exact Go.Lib.itoa_length_le n (by omega) (by omega)
  rw[List.length_take,List.length_map,List.length_singleton,Nat.min_eq_left hk] at this
  exact this
 refine Ev.start (p:=fun φ n=>Z91.l0 (mkR (run E (φ 0))) (φ 0) n l (tx []) 0=_) 1 ?_ (fun _ _ _ h=>h)
 refine qav 1 (L:=fun φ n k o=>Z91.l0 (mkR (run E (φ 0))) (φ 0) n l o k) (len:=l.length) (fun k=>tx (Go.Lib.join ((l.map Go.Lib.itoa).take k) [44])) (fun _ _ _ _ _=>rfl) (fun k r hk ih=>?_) ?_
 ·simp only[Z91.l0_succ _ qag,Z91.j1_eq _ qag]
  have hbk:=hb l[k] (List.getElem_mem hk)
  have hd:l[k].natAbs<10 ^ 18:=by omega
  have hjk:=hj k (by omega)
  have hik:=hi k hk
  rw[qal hk] at hik
  have hkm:k<(l.map Go.Lib.itoa).length:=by simpa using hk
  rw[qhN hkm] at ih
  rw[List.getElem_map] at ih
  refine qaF (decide_eq_true (by omega)) (qda (fun h=>?_) fun h=>?_)
  ·rw[if_neg (show ¬ k=0 by omega)] at ih
   refine qaA (decide_eq_true (by show(tx _).size+(tx [44]).size≤_;rw[qaG,qaG,List.length_singleton];omega)) ?_
   refine qaf (qah hk) (qac (qee l[k] hd) (qaA (decide_eq_true ?_) ?_))
   ·show(tx _++tx [44]).size+(tx _).size≤_
    rw[qbj,qaG,qaG,List.length_append,List.length_singleton];omega
   ·rw[qai (by omega)]
    have e:tx (Go.Lib.join ((l.map Go.Lib.itoa).take k) [44])++tx [44]++tx (Go.Lib.itoa l[k])=tx (Go.Lib.join ((l.map Go.Lib.itoa).take k) [44]++[44]++Go.Lib.itoa l[k]):=by rw[qbj,qbj]
    rw[← e] at ih
    exact ih
  ·obtain rfl:k=0:=by omega
   rw[if_pos rfl] at ih
   refine qaf (qah hk) (qac (qee l[0] hd) (qaA (decide_eq_true ?_) ?_))
   ·show(tx _).size+(tx _).size≤_
    rw[qaG,qaG];omega
   ·rw[qai (by omega)]
    have e:tx (Go.Lib.join ((l.map Go.Lib.itoa).take 0) [44])++tx (Go.Lib.itoa l[0])=tx (Go.Lib.itoa l[0]):=by rw[qbj,List.take_zero,Go.Lib.join_nil,List.nil_append]
    show Ev fun φ=>Z91.l0 (mkR (run E (φ 0))) (φ 0) (φ 1) l (tx (Go.Lib.join ((l.map Go.Lib.itoa).take 0) [44])++tx (Go.Lib.itoa l[0])) ((0+1:Nat):Int)=r
    rw[e]
    exact ih
 ·simp only[Z91.l0_succ _ qag]
  refine qaL (decide_eq_false (by omega)) ?_
  have e:(l.map Go.Lib.itoa).take l.length=l.map Go.Lib.itoa:=List.take_of_length_le (by simp)
  rw[e]
  exact qan
noncomputable def qdd(c:List Sim):Nat→Sim
 | 0=>[]
 | k+1=>if (qhk c (c.getD k []) c.length).length=1 then qdd c k++[(k:Int)] else qdd c k
theorem qeS{c:List Sim}:∀ {n:Nat} {x:Int},x∈qdd c n→0≤x∧x<(n:Int)
 | 0,x,h=>by cases h
 | n+1,x,h=>by
  unfold qdd at h
  split at h
  ·rcases List.mem_append.1 h with h | h
   ·have:=qeS h;omega
   ·rw[List.mem_singleton] at h;omega
  ·have:=qeS h;omega
theorem qc6{c:List Sim}:∀ {n:Nat},(qdd c n).length≤n
 | 0=>Nat.le_refl _
 | n+1=>by
  have:=qc6 (c:=c) (n:=n)
  unfold qdd
  split
  ·rw[List.length_append,List.length_singleton];omega
  ·omega
theorem qi4(c:List Sim)(hc:Sm yK c):Ret E n_Z25 [dLL c] ⟨o_Z25,(qdd c c.length,())⟩:=by
 have hc1:c.length≤1048576:=hc.1
 refine qao ?_
 simp only[run_Z25,Z25.ev]
 refine qac (qhX c) ?_
 refine Ev.start (p:=fun φ n=>Z25.l0 (mkR (run E (φ 0))) (φ 0) n (c.length:Int) 0 c []=_) 1 ?_ (fun _ _ _ h=>h)
 refine qav 1 (L:=fun φ n k o=>Z25.l0 (mkR (run E (φ 0))) (φ 0) n (c.length:Int) k c o) (len:=c.length) (fun k=>qdd c k) (fun _ _ _ _ _=>rfl) (fun k r hk ih=>?_) ?_
 ·simp only[Z25.l0_succ _ qag]
  have hfl:=qc6 (c:=c) (n:=k)
  refine qaF (decide_eq_true (by omega)) (qac (qja c k hk hc) ?_)
  rw[qdd,qal hk] at ih
  by_cases h:(qhk c c[k] c.length).length=1
  ·rw[if_pos h] at ih
   refine qaF (by show((((qhk c c[k] c.length).length:Nat):Int)==1)=true;rw[h];rfl) (qaA (decide_eq_true (by simp only[List.length_singleton];omega)) ?_)
   rw[qai (by omega)];exact ih
  ·rw[if_neg h] at ih
   refine qaL (by show((((qhk c c[k] c.length).length:Nat):Int)==1)=false;rw[beq_eq_false_iff_ne];omega) ?_
   rw[qai (by omega)];exact ih
 ·simp only[Z25.l0_succ _ qag]
  exact qaL (decide_eq_false (by omega)) qan
theorem qgC(c:Cpx)(hc:Sm yK c.1):Ret E n_Z98 [dC c] ⟨o_Z98,(qdd c.1 c.1.length,())⟩:=by
 have hc1:c.1.length≤1048576:=hc.1
 refine qao ?_
 simp only[run_Z98,Z98.ev]
 refine Ev.start (p:=fun φ n=>Z98.l0 (mkR (run E (φ 0))) (φ 0) n c 0 []=_) 1 ?_ (fun _ _ _ h=>h)
 refine qav 1 (L:=fun φ n k o=>Z98.l0 (mkR (run E (φ 0))) (φ 0) n c k o) (len:=c.1.length) (fun k=>qdd c.1 k) (fun _ _ _ _ _=>rfl) (fun k r hk ih=>?_) ?_
 ·simp only[Z98.l0_succ _ qag]
  have hfl:=qc6 (c:=c.1) (n:=k)
  refine qaF (decide_eq_true (by omega)) (qaf (qah hk) (qac (qik c c.1[k] (qbh hc hk).1 hc) ?_))
  rw[qdd,qal hk] at ih
  by_cases h:(qhk c.1 c.1[k] c.1.length).length=1
  ·rw[if_pos h] at ih
   refine qaF (by show((((qhk c.1 c.1[k] c.1.length).length:Nat):Int)==1)=true;rw[h];rfl) (qaA (decide_eq_true (by simp only[List.length_singleton];omega)) ?_)
   rw[qai (by omega)];exact ih
  ·rw[if_neg h] at ih
   refine qaL (by show((((qhk c.1 c.1[k] c.1.length).length:Nat):Int)==1)=false;rw[beq_eq_false_iff_ne];omega) ?_
   rw[qai (by omega)];exact ih
 ·simp only[Z98.l0_succ _ qag]
  exact qaL (decide_eq_false (by omega)) qan
noncomputable def qcE(c:List Sim):List Tx:=(qdd c c.length).map fun k=>qbk (c.getD k.toNat [])
noncomputable def qeN(c:List Sim):Tx:=if qdd c c.length=[] then [45] else Go.Lib.join (qcE c) [47]
open Classical in
noncomputable def qlf(c:List Sim):Tx:=if VC c then qeN c else []
theorem qju{s:Sim}(h:Vx s):qlc s∧s.length≤4:=⟨⟨by have:=h.2.1;omega,fun x hx=>by have:=h.2.2.2 x hx;omega⟩,h.2.1⟩
theorem qg0{c:List Sim}(h:VC c):∀ x∈qcE c,x.length≤89:=fun x hx=>by
 obtain⟨k,hk,rfl⟩:=List.mem_map.1 hx
 have hm:=qeS hk
 obtain⟨h1,h2⟩:=qju (h.2.1 k.toNat (by omega))
 have:=qcl h1.2
 omega
theorem qkR{c:List Sim}(hv:VC c){k:Nat}(hk:k<(qdd c c.length).length):∃ j:Nat,(qdd c c.length)[k]=(j:Int)∧∃ hj:j<c.length,qlc c[j]∧c[j].length≤4∧(qcE c)[k]? = some (qbk c[j]):=by
 have hm:=qeS (List.getElem_mem hk)
 obtain⟨j,hj⟩:=Int.eq_ofNat_of_zero_le hm.1
 have hjl:j<c.length:=by omega
 obtain⟨h1,h2⟩:=qju (hv.2.1 j hjl)
 rw[qal hjl] at h1 h2
 refine⟨j,hj,hjl,h1,h2,?_⟩
 unfold qcE
 rw[List.getElem?_map,List.getElem?_eq_getElem hk,Option.map_some,hj,Int.toNat_natCast,qal hjl]
theorem qft(c:List Sim)(hc:Sm yK c):Ret E n_Z5 [dLL c] ⟨o_Z5,(tx (qlf c),())⟩:=by
 refine qao ?_
 simp only[run_Z5,Z5.ev]
 refine qac (qcC c hc) ?_
 by_cases hv:¬ VC c
 ·rw[qlf,if_neg hv]
  exact qaF (by rw[qap hv];rfl) qan
 replace hv:=Classical.not_not.1 hv
 rw[qlf,if_pos hv]
 refine qaL (by rw[qaE hv];rfl) (qac (qi4 c hc) ?_)
 have h48:=hv.1
 have hfl:=qc6 (c:=c) (n:=c.length)
 have hftl:(qcE c).length=(qdd c c.length).length:=List.length_map _
 refine Ev.start (p:=fun φ n=>Z5.l0 (mkR (run E (φ 0))) (φ 0) n (qdd c c.length) ((qdd c c.length).length:Int) 0 c []=_) 1 ?_ (fun _ _ _ h=>h)
 refine qav 1 (L:=fun φ n k o=>Z5.l0 (mkR (run E (φ 0))) (φ 0) n (qdd c c.length) ((qdd c c.length).length:Int) k c o) (len:=(qdd c c.length).length) (fun k=>((qcE c).take k).map tx) (fun _ _ _ _ _=>rfl) (fun k r hk ih=>?_) ?_
 ·simp only[Z5.l0_succ _ qag]
  obtain⟨j,e1,hj,hf,h4,e2⟩:=qkR hv hk
  have hlk:(((qcE c).take k).map tx).length=k:=by simp;omega
  refine qaF (decide_eq_true (by omega)) (qaf (qah hk) ?_)
  rw[e1]
  refine qaf (qah hj) (qac (qcP c[j] (by omega)) (qaA (decide_eq_true (by simp only[hlk,List.length_singleton];omega)) ?_))
  rw[qai (by omega)]
  have e:((qcE c).take (k+1)).map tx=((qcE c).take k).map tx++[tx (qfK c[j])]:=by
   have hk2:k<(qcE c).length:=by omega
   rw[List.take_succ_eq_append_getElem hk2,List.map_append]
   rw[List.getElem?_eq_getElem hk2] at e2
   rw[Option.some.inj e2,qfK,if_pos hf];rfl
  rw[e] at ih
  exact ih
 ·simp only[Z5.l0_succ _ qag]
  refine qaL (decide_eq_false (by omega)) ?_
  have e:(qcE c).take (qdd c c.length).length=qcE c:=List.take_of_length_le (by omega)
  rw[e]
  by_cases h0:qdd c c.length=[]
  ·rw[qeN,if_pos h0]
   have:qcE c=[]:=by unfold qcE;rw[h0];rfl
   rw[this]
   exact qaF rfl qan
  ·rw[qeN,if_neg h0]
   have hl0:0<(qdd c c.length).length:=List.length_pos_iff.2 h0
   refine qaL (by rw[beq_eq_false_iff_ne,List.length_map];omega) ?_
   have hj:=qcu (ls:=qcE c) (s:=[47]) (b:=89) (qg0 hv)
   rw[hftl,List.length_singleton] at hj
   exact qac (qgy (qcE c) [47] (by omega) (by omega)) qan
theorem qiq(c:Cpx)(hc:Sm yK c.1)(hv:VC c.1):Ret E n_Z105 [dC c] ⟨o_Z105,(tx (qeN c.1),())⟩:=by
 refine qao ?_
 simp only[run_Z105,Z105.ev]
 refine qac (qgC c hc) ?_
 obtain⟨c,⟨⟩⟩:=c
 have h48:=hv.1
 simp only at hc hv h48
 have hfl:=qc6 (c:=c) (n:=c.length)
 have hftl:(qcE c).length=(qdd c c.length).length:=List.length_map _
 have hj:∀ k,k≤(qcE c).length→(Go.Lib.join ((qcE c).take k) [47]).length≤k*90:=fun k hk=>by
  have:=qcu (ls:=(qcE c).take k) (s:=[47]) (b:=89) fun x hx=>qg0 hv x (List.mem_of_mem_take hx)
  rw[List.length_take,List.length_singleton,Nat.min_eq_left hk] at this
  exact this
 refine Ev.start (p:=fun φ n=>Z105.l0 (mkR (run E (φ 0))) (φ 0) n (c,()) (qdd c c.length) (tx []) 0=_) 1 ?_ (fun _ _ _ h=>h)
 refine qav 1 (L:=fun φ n k o=>Z105.l0 (mkR (run E (φ 0))) (φ 0) n (c,()) (qdd c c.length) o k) (len:=(qdd c c.length).length) (fun k=>tx (Go.Lib.join ((qcE c).take k) [47])) (fun _ _ _ _ _=>rfl) (fun k r hk ih=>?_) ?_
 ·simp only[Z105.l0_succ _ qag,Z105.j1_eq _ qag]
  obtain⟨j,e1,hjl,hf,h4,e2⟩:=qkR hv hk
  have hk2:k<(qcE c).length:=by omega
  have hjk:=hj k (by omega)
  have hlt:=qcl hf.2
  rw[qhN hk2] at ih
  rw[List.getElem?_eq_getElem hk2] at e2
  rw[Option.some.inj e2] at ih
  have hl:=qdo c[j] (by omega) hf.2
  refine qaF (decide_eq_true (by omega)) (qda (fun h=>?_) fun h=>?_)
  ·rw[if_neg (show ¬ k=0 by omega)] at ih
   refine qaA (decide_eq_true (by show(tx _).size+(tx [47]).size≤_;rw[qaG,qaG,List.length_singleton];omega)) (qaf (qah hk) ?_)
   rw[e1]
   refine qaf (qah hjl) (qac hl (qaA (decide_eq_true ?_) ?_))
   ·show(tx _++tx [47]).size+(tx _).size≤_
    rw[qbj,qaG,qaG,List.length_append,List.length_singleton];omega
   ·rw[qai (by omega)]
    have e:tx (Go.Lib.join ((qcE c).take k) [47])++tx [47]++tx (qbk c[j])=tx (Go.Lib.join ((qcE c).take k) [47]++[47]++qbk c[j]):=by rw[qbj,qbj]
    rw[← e] at ih
    exact ih
  ·obtain rfl:k=0:=by omega
   rw[if_pos rfl] at ih
   refine qaf (qah hk) ?_
   rw[e1]
   refine qaf (qah hjl) (qac hl (qaA (decide_eq_true ?_) ?_))
   ·show(tx _).size+(tx _).size≤_
    rw[qaG,qaG];omega
   ·rw[qai (by omega)]
    have e:tx (Go.Lib.join ((qcE c).take 0) [47])++tx (qbk c[j])=tx (qbk c[j]):=by rw[qbj,List.take_zero,Go.Lib.join_nil,List.nil_append]
    show Ev fun φ=>Z105.l0 (mkR (run E (φ 0))) (φ 0) (φ 1) (c,()) (qdd c c.length) (tx (Go.Lib.join ((qcE c).take 0) [47])++tx (qbk c[j])) ((0+1:Nat):Int)=r
    rw[e]
    exact ih
 ·simp only[Z105.l0_succ _ qag]
  refine qaL (decide_eq_false (by omega)) ?_
  have e:(qcE c).take (qdd c c.length).length=qcE c:=List.take_of_length_le (by omega)
  rw[e]
  by_cases h0:qdd c c.length=[]
  ·rw[qeN,if_pos h0]
   have:qcE c=[]:=by unfold qcE;rw[h0];rfl
   rw[this]
   exact qaF (by rw[beq_iff_eq];rfl) qan
  ·rw[qeN,if_neg h0]
   refine qaL ?_ qan
   have hne:Go.Lib.join (qcE c) [47]≠[]:=qjW (by unfold qcE;simpa using h0) fun x hx=>by
    obtain⟨k,_,rfl⟩:=List.mem_map.1 hx
    exact qkE _
   rw[beq_eq_false_iff_ne]
   intro he
   rw[ByteArray.toList_eq,ByteArray.toList_eq] at he
   exact hne ((qim _).symm.trans he)
end VeT
open Go Go.Proofs Ve
namespace VeT
end VeT
open Go Go.Proofs Ve
namespace VeT
end VeT
open Go Go.Proofs Ve
namespace VeT
theorem qlm{st:Sim}(hst:∀ x∈st,0≤x∧x≤3)(k:Nat):0≤st.getD k 0∧st.getD k 0≤3:=by
 by_cases hl:k<st.length
 ·rw[qal hl];exact hst _ (List.getElem_mem hl)
 ·rw[List.getD_eq_getElem?_getD,List.getElem?_eq_none (by omega)];simp
end VeT
open Go Go.Proofs Ve
namespace VeT
theorem VS.fits{c:List Sim}{p:Int}{st:Sim}{ms:List Mat}(h:VS c p st ms){t:Nat}(ht:t<ms.length):(ms[t]).2.2.2.1.length≤9∧qlc (ms[t]).2.2.2.1:=by
 have hlen:plc c c.length=ms.length:=h.2.2.2.1
 obtain⟨k,i,hk,hi,rfl⟩:=qgv (c:=c) (n:=c.length) (t:=t) (by show t<plc c c.length;omega)
 obtain⟨_,hb⟩:=h.map hk hi
 have e:mp c ms k i=ms[plc c k+i]:=by
  show ms.getD (plc c k+i) mz=_
  rw[List.getD_eq_getElem?_getD,List.getElem?_eq_getElem ht];rfl
 rw[e] at hb
 obtain⟨hm,e1,e2,e3⟩:=hb
 have hst:=h.2.2.1.2.1
 have s1:=qlm hst k
 have s2:0≤st.getD (fc c k i) 0∧st.getD (fc c k i) 0≤3:=qlm hst (fc c k i)
 have hl:=hm.2.2.2.1
 rw[e2,e3] at hl
 have hle:st.getD k 0*st.getD (fc c k i) 0≤9:=by
  obtain⟨a,ha⟩:=Int.eq_ofNat_of_zero_le s1.1
  obtain⟨b,hb⟩:=Int.eq_ofNat_of_zero_le s2.1
  rw[ha,hb,qkD]
  have:a*b≤3*3:=Nat.mul_le_mul (by omega) (by omega)
  omega
 refine⟨by omega,by omega,fun x hx=>?_⟩
 have h1:=hm.2.2.2.2 x hx
 have h2:=hm.1.2.1
 omega
def qbr(ms:List Mat):List Tx:=ms.map fun m=>qbk m.2.2.2.1
noncomputable def qiJ(x:Shf):Tx:=Go.Lib.join (qeN x.1::Go.Lib.itoa x.2.1::qbk x.2.2.1::qbr x.2.2.2.1) [59]
open Classical in
noncomputable def qbC(x:Shf):ByteArray:=if VS x.1 x.2.1 x.2.2.1 x.2.2.2.1 then tx (qiJ x) else tx []
theorem qiP{c:List Sim}(h:VC c):(qeN c).length≤48*90+1:=by
 unfold qeN
 split
 ·simp
 ·have:=qcu (ls:=qcE c) (s:=[47]) (b:=89) (qg0 h)
  have h2:(qcE c).length≤c.length:=by unfold qcE;rw[List.length_map];exact qc6
  have h3:=h.1
  rw[List.length_singleton] at this
  have:(qcE c).length*(1+89)≤48*90:=Nat.mul_le_mul (by omega) (by omega)
  omega
theorem qig{c:List Sim}{st:Sim}(h:VC c)(hs:SK c st):qlc st:=⟨by rw[hs.1];have:=h.1;omega,fun x hx=>by have:=hs.2.1 x hx;omega⟩
theorem VS.num{c:List Sim}{p:Int}{st:Sim}{ms:List Mat}(h:VS c p st ms):ms.length≤192:=by
 have h1:plc c c.length=ms.length:=h.2.2.2.1
 have h2:=h.1.plc (Nat.le_refl c.length)
 have h3:=h.1.1
 omega
theorem qhW{c:List Sim}{p:Int}{st:Sim}{ms:List Mat}(h:VS c p st ms):∀ x∈qbr ms,x.length≤199:=fun x hx=>by
 obtain⟨m,hm,rfl⟩:=List.mem_map.1 hx
 obtain⟨t,ht,rfl⟩:=List.getElem_of_mem hm
 obtain⟨h1,h2⟩:=h.fits ht
 have:=qcl h2.2
 omega
theorem qj4{x:Shf}(h:VS x.1 x.2.1 x.2.2.1 x.2.2.2.1):∀ y∈qeN x.1::Go.Lib.itoa x.2.1::qbk x.2.2.1::qbr x.2.2.2.1,y.length≤4321:=fun y hy=>by
 rcases List.mem_cons.1 hy with rfl | hy
 ·exact qiP h.1
 ·rcases List.mem_cons.1 hy with rfl | hy
  ·have h2:=h.2.1
   have:=Go.Lib.itoa_length_le x.2.1 (by have:=h2.1;omega) (by have:=h2.2.1;omega)
   omega
  ·rcases List.mem_cons.1 hy with rfl | hy
   ·have hf:=qig h.1 h.2.2.1
    have:=qcl hf.2
    have:=hf.1
    omega
   ·have:=qhW h y hy;omega
theorem qeb(x:Shf)(hx:Sm (.st cS) x):Ret E n_Z9 [dLL x.1,dI x.2.1,dL x.2.2.1,dMs x.2.2.2.1] ⟨o_Z9,(qbC x,())⟩:=by
 obtain⟨c,p,st,ms,⟨⟩⟩:=x
 refine qao ?_
 simp only[run_Z9,Z9.ev]
 refine qac (qdW c p st ms hx.1 hx.2.2.1.1 hx.2.2.2.1) ?_
 by_cases hv:¬ VS c p st ms
 ·rw[qbC,if_neg hv]
  exact qaF (by rw[qap hv];rfl) qan
 replace hv:=Classical.not_not.1 hv
 have hv':VS ((c,p,st,ms,()):Shf).1 ((c,p,st,ms,()):Shf).2.1 ((c,p,st,ms,()):Shf).2.2.1 ((c,p,st,ms,()):Shf).2.2.2.1:=hv
 rw[qbC,if_pos hv']
 have hf:=qig hv.1 hv.2.2.1
 have hn:=hv.num
 have hp:=hv.2.1
 have hwl:=qj4 hv'
 refine qaL (by rw[qaE hv];rfl) (qac (qft c hx.1) (qac (qfp p (by have:=hp.1;omega) (by have:=hp.2.1;omega)) (qac (qcP st hx.2.2.1.1) ?_)))
 have e0:[tx (qlf c),tx (Go.Lib.itoa p),tx (qfK st)]=[tx (qeN c),tx (Go.Lib.itoa p),tx (qbk st)]:=by rw[qlf,if_pos hv.1,qfK,if_pos hf]
 show Ev fun φ=>Z9.l0 (mkR (run E (φ 0))) (φ 0) (φ 0) ms (ms.length:Int) 0 [tx (qlf c),tx (Go.Lib.itoa p),tx (qfK st)]=_
 rw[e0]
 have hml:(qbr ms).length=ms.length:=List.length_map _
 refine Ev.start (p:=fun φ n=>Z9.l0 (mkR (run E (φ 0))) (φ 0) n ms (ms.length:Int) 0 [tx (qeN c),tx (Go.Lib.itoa p),tx (qbk st)]=_) 1 ?_ (fun _ _ _ h=>h)
 refine qav 1 (L:=fun φ n k o=>Z9.l0 (mkR (run E (φ 0))) (φ 0) n ms (ms.length:Int) k o) (len:=ms.length) (fun k=>(qeN c::Go.Lib.itoa p::qbk st::(qbr ms).take k).map tx) (fun _ _ _ _ _=>rfl) (fun k r hk ih=>?_) ?_
 ·simp only[Z9.l0_succ _ qag]
  obtain⟨h9,hft⟩:=hv.fits hk
  have hk2:k<(qbr ms).length:=by omega
  have hlk:((qeN c::Go.Lib.itoa p::qbk st::(qbr ms).take k).map tx).length=k+3:=by simp;omega
  refine qaF (decide_eq_true (by omega)) (qaf (qah hk) (qac (qcP (ms[k]).2.2.2.1 (by omega)) (qaA (decide_eq_true (by simp only[hlk,List.length_singleton];omega)) ?_)))
  rw[qai (by omega)]
  have e:(qeN c::Go.Lib.itoa p::qbk st::(qbr ms).take (k+1)).map tx=(qeN c::Go.Lib.itoa p::qbk st::(qbr ms).take k).map tx++[tx (qfK (ms[k]).2.2.2.1)]:=by
   rw[List.take_succ_eq_append_getElem hk2,qfK,if_pos hft]
   simp[qbr]
  rw[e] at ih
  exact ih
 ·simp only[Z9.l0_succ _ qag]
  refine qaL (decide_eq_false (by omega)) ?_
  have e:(qbr ms).take ms.length=qbr ms:=List.take_of_length_le (by omega)
  rw[e]
  have hj:=qcu (ls:=qeN c::Go.Lib.itoa p::qbk st::qbr ms) (s:=[59]) (b:=4321) hwl
  have hl3:(qeN c::Go.Lib.itoa p::qbk st::qbr ms).length=ms.length+3:=by simp[qbr]
  rw[hl3,List.length_singleton] at hj
  have:(ms.length+3)*(1+4321)≤195*4322:=Nat.mul_le_mul (by omega) (by omega)
  exact qac (qgy (qeN c::Go.Lib.itoa p::qbk st::qbr ms) [59] (by omega) (by omega)) qan
theorem qjr{r:List Tx}{s:Tx}{k:Nat}(hk:k<r.length):Go.Lib.joinTail s (r.take (k+1))=Go.Lib.joinTail s (r.take k)++(s++r[k]):=by
 rw[Go.Lib.joinTail_take_succ s r k r[k] (List.getElem?_eq_getElem hk),List.append_assoc]
theorem qkt{r:List Tx}{s:Tx}{b:Nat}(h:∀ x∈r,x.length≤b):(Go.Lib.joinTail s r).length≤r.length*(s.length+b):=by
 induction r with
 | nil=>simp[Go.Lib.joinTail]
 | cons y r ih =>
  have h1:=ih fun x hx=>h x (List.mem_cons_of_mem _ hx)
  have h2:=h y List.mem_cons_self
  have e:Go.Lib.joinTail s (y::r)=s++y++Go.Lib.joinTail s r:=by simp[Go.Lib.joinTail]
  rw[e,List.length_append,List.length_append,List.length_cons,Nat.succ_mul]
  omega
theorem qip(x:Shf)(hx:Sm (.st cS) x)(hv':VS x.1 x.2.1 x.2.2.1 x.2.2.2.1):Ret E n_Z112 [dS x] ⟨o_Z112,(tx (qiJ x),())⟩:=by
 obtain⟨c,p,st,ms,⟨⟩⟩:=x
 have hv:VS c p st ms:=hv'
 have hf:=qig hv.1 hv.2.2.1
 have hn:=hv.num
 have hp:=hv.2.1
 have hp1:=hp.1
 have hp2:=hp.2.1
 have h1:=qiP hv.1
 have h2:=Go.Lib.itoa_length_le p (by omega) (by omega)
 have h3:=qcl hf.2
 have h4:=hf.1
 have hml:(qbr ms).length=ms.length:=List.length_map _
 refine qao ?_
 simp only[run_Z112,Z112.ev]
 refine qac (qiq (c,()) hx.1 hv.1) (qaA (decide_eq_true (by show(tx _).size+(tx [59]).size≤_;rw[qaG,qaG];simp only[List.length_singleton];omega)) (qac (qee p (by omega)) (qaA (decide_eq_true ?_) (qaA (decide_eq_true ?_) (qac (qdo st (by omega) hf.2) (qaA (decide_eq_true ?_) ?_))))))
 ·show(tx (qeN c)++tx [59]).size+(tx (Go.Lib.itoa p)).size≤_
  rw[qbj,qaG,qaG,List.length_append,List.length_singleton];omega
 ·show(tx (qeN c)++tx [59]++tx (Go.Lib.itoa p)).size+(tx [59]).size≤_
  rw[qbj,qbj,qaG,qaG,List.length_append,List.length_append,List.length_singleton];omega
 ·show(tx (qeN c)++tx [59]++tx (Go.Lib.itoa p)++tx [59]).size+(tx (qbk st)).size≤_
  rw[qbj,qbj,qbj,qaG,qaG,List.length_append,List.length_append,List.length_append,List.length_singleton];omega
 ·show Ev fun φ=>Z112.l0 (mkR (run E (φ 0))) (φ 0) (φ 0) (c,p,st,ms,()) (tx (qeN c)++tx [59]++tx (Go.Lib.itoa p)++tx [59]++tx (qbk st)) 0=_
  rw[qbj,qbj,qbj,qbj]
  generalize hpre:qeN c++[59]++Go.Lib.itoa p++[59]++qbk st=pre
  have hprel:pre.length≤6000:=by rw[← hpre];simp;omega
  have hfin:qiJ (c,p,st,ms,())=pre++Go.Lib.joinTail [59] (qbr ms):=by
   unfold qiJ
   rw[Go.Lib.join_cons,← hpre]
   simp[Go.Lib.joinTail,List.append_assoc]
  rw[hfin]
  have e0:pre=pre++Go.Lib.joinTail [59] ((qbr ms).take 0):=by simp[Go.Lib.joinTail]
  conv in Z112.l0 _ _ _ _ _ _=>rw[e0]
  refine Ev.start (p:=fun φ n=>Z112.l0 (mkR (run E (φ 0))) (φ 0) n (c,p,st,ms,()) (tx (pre++Go.Lib.joinTail [59] ((qbr ms).take 0))) 0=_) 1 ?_ (fun _ _ _ h=>h)
  refine qav 1 (L:=fun φ n k o=>Z112.l0 (mkR (run E (φ 0))) (φ 0) n (c,p,st,ms,()) o k) (len:=ms.length) (fun k=>tx (pre++Go.Lib.joinTail [59] ((qbr ms).take k))) (fun _ _ _ _ _=>rfl) (fun k r hk ih=>?_) ?_
  ·simp only[Z112.l0_succ _ qag]
   obtain⟨h9,hft⟩:=hv.fits hk
   have hk2:k<(qbr ms).length:=by omega
   have hlt:=qcl hft.2
   have htl:=qkt (r:=(qbr ms).take k) (s:=[59]) (b:=199) fun y hy=>qhW hv y (List.mem_of_mem_take hy)
   have htl2:((qbr ms).take k).length*(([59]:Tx).length+199)≤192*200:=Nat.mul_le_mul (by rw[List.length_take];omega) (by simp)
   refine qaF (decide_eq_true (by omega)) (qaf (qah hk) (qac (qdo (ms[k]).2.2.2.1 (by omega) hft.2) (qaA (decide_eq_true ?_) (qaA (decide_eq_true ?_) ?_))))
   ·show(tx [59]).size+(tx _).size≤_
    rw[qaG,qaG,List.length_singleton];omega
   ·show(tx _).size+(tx [59]++tx (qbk (ms[k]).2.2.2.1)).size≤_
    rw[qbj,qaG,qaG,List.length_append,List.length_append,List.length_singleton];omega
   ·rw[qai (by omega)]
    have e:tx (pre++Go.Lib.joinTail [59] ((qbr ms).take k))++(tx [59]++tx (qbk (ms[k]).2.2.2.1))=tx (pre++Go.Lib.joinTail [59] ((qbr ms).take (k+1))):=by
     rw[qbj,qbj,qjr hk2,List.append_assoc];simp[qbr]
    rw[← e] at ih
    exact ih
  ·simp only[Z112.l0_succ _ qag]
   refine qaL (decide_eq_false (by omega)) ?_
   have e:(qbr ms).take ms.length=qbr ms:=List.take_of_length_le (by omega)
   rw[e]
   exact qan
theorem qd8(x:Shf)(hx:Sm (.st cS) x):Ret E n_Z83 [dLL x.1,dI x.2.1,dL x.2.2.1,dMs x.2.2.2.1] ⟨o_Z83,(qbC x,())⟩:=by
 refine qao ?_
 simp only[run_Z83,Z83.ev]
 refine qac (qjJ x hx) ?_
 by_cases hv:VS x.1 x.2.1 x.2.2.1 x.2.2.2.1
 ·rw[qbC,if_pos hv]
  exact qaL (by rw[qaE hv];rfl) (qac (qip x hx hv) qan)
 ·rw[qbC,if_neg hv]
  exact qaF (by rw[qap hv];rfl) qan
end VeT
open Go Go.Proofs Ve
namespace VeT
theorem qgR(x0:Shf)(w0:Wf (.st cS) x0):Ret E n_Z41 [dLL x0.1,dI x0.2.1,dL x0.2.2.1,dMs x0.2.2.2.1] ⟨.cons .bool .nil,(true,())⟩:=by
 refine qao ?_
 simp only[run_Z41,Z41.ev]
 obtain⟨r0,hs0,s0⟩:=qin x0 1048576 w0 (by omega) (by omega)
 refine qac hs0 (qda (fun _=>qan) fun n0=>?_)
 have n0:=Int.not_lt.1 n0
 obtain⟨b0,m0⟩:=s0 n0
 have hi:=qeb x0 m0
 have hsp:=qd8 x0 m0
 generalize qbC x0=V at hi hsp
 have to0:=qii x0 m0
 obtain⟨q0,hq0,eq0⟩:=qio x0 x0 m0
 obtain rfl:q0=true:=eq0.2 rfl
 repeat (first | with_reducible exact qan | with_reducible refine qac to0 ?_ | with_reducible refine qac hq0 ?_ | with_reducible refine qac hi ?_ | with_reducible refine qac hsp ?_ | with_reducible refine qk9 ?_ ?_ | with_reducible refine qaL (by first | rfl | exact bne_self_eq_false _ | (simp;done)) ?_ | simp only[bne_self_eq_false,cond_false,cond_false])
theorem qkN(z:((.cons yK (.cons yI (.cons yL (.cons (.sl (.st cM)) .nil)))):Ty).T)
  (h:Wf (.cons yK (.cons yI (.cons yL (.cons (.sl (.st cM)) .nil)))) z) :
  Evt fun n=>run E n n_Z41 (qaY _ z)=some ⟨.cons .bool .nil,(true,())⟩ :=
 qgR (z.1,z.2.1,z.2.2.1,z.2.2.2.1,()) ⟨h.1,h.2.1,h.2.2.1,h.2.2.2.1,trivial⟩
end VeT
