import GoSem.Step
import Derived.Orders
import Derived.Laws.AppendOwn
import Derived.Laws.MakeOwn
import Derived.Laws.Cells
import Derived.Calls
import Derived.Laws.Sem
import Derived.Tactics
import Derived.Laws.Slices
import Derived.Laws.Strings3
import Derived.Laws.Tables
set_option linter.unusedVariables false
set_option linter.unusedSimpArgs false
namespace Ve
open Go
inductive Ty where
 | int (k:IntKind) | bool | str
 | sl (t:Ty) | ptr (c:Ty) | fn (f:Nat) (c:Ty) | st (c:Ty)
 | nil | cons (a b:Ty)
 | lab (t:Ty)
 deriving DecidableEq
@[reducible] def Ty.T:Ty→Type
 | .int _=>Int
 | .bool=>Bool
 | .str=>ByteArray
 | .sl t=>List t.T
 | .ptr c=>c.T
 | .fn _ c=>c.T
 | .st c=>c.T
 | .nil=>Unit
 | .cons a b=>a.T×b.T
 | .lab t=>Value×t.T
def Ty.size:Ty→Nat
 | .st c=>c.size
 | .nil=>0
 | .cons a b=>a.size+b.size
 | _=>1
structure Dv where
 t:Ty
 x:t.T
def cast?(t u:Ty)(x:t.T):Option u.T:=if h:t=u then some (h ▸ x) else none
def Dv.to(d:Dv)(u:Ty):Option u.T:=cast? d.t u d.x
inductive V0 where
 | d (t:Ty) (x:t.T)
 | ip (c:Ty) (x:c.T) (off:Nat)
 | nils (t:Ty)
 | undef
 | dead
 | box (s off:Nat)
 | arr (s:Nat)
 | elt (s:Nat) (i:Nat) (off:Nat) (sz:Nat)
 | sub (s:Nat) (lo hi:Nat) (sz:Nat)
 | ln (n:Nat)
inductive V where
 | c (v:V0)
 | agg (cs:List V0)
 | tup (vs:List (Bool×List V0))
inductive Obj where
 | box (cells:List V0) (frozen fixed:Bool)
 | arr (t:Ty) (xs:List t.T) (deep frozen fixed:Bool)
 | hol (t:Ty) (xs:List t.T) (i:Nat) (frozen:Bool)
 | hlp (t:Ty) (xs:List t.T) (i:Nat) (d:Nat) (frozen:Bool)
 | bxo (c:Ty) (x:c.T) (k a:Nat) (frozen fixed:Bool)
structure St where
 fr:List V
 ob:List (Option Obj)
def V.dead:V:=.c .dead
def V.undef:V:=.c .undef
def V.int?:V→Option (IntKind×Int)
 | .c (.d t x)=>(match t,x with | .int k,x=>some (k,x) | _,_=>none)
 | _=>none
def V.bool?:V→Option Bool
 | .c (.d t x)=>(match t,x with | .bool,x=>some x | _,_=>none)
 | _=>none
def V.str?:V→Option ByteArray
 | .c (.d t x)=>(match t,x with | .str,x=>some x | _,_=>none)
 | _=>none
def vI(k:IntKind)(n:Int):V:=.c (.d (.int k) n)
def vB(b:Bool):V:=.c (.d .bool b)
def vS(s:ByteArray):V:=.c (.d .str s)
def Ty.sc:Ty→Bool
 | .st _=>false | .nil=>false | .cons _ _=>false
 | _=>true
def V0.sc:V0→Bool
 | .d t _=>t.sc
 | .undef=>false
 | .dead=>false
 | _=>true
def qgq(t:Ty)(x:t.T):V0:=match t,x with
 | .ptr c,x=>.ip c x 0
 | t,x=>.d t x
def qdC(t:Ty)(x:t.T):List V0:=bif t.sc then [qgq t x] else List.replicate t.size .dead
def qaJ:(c:Ty)→c.T→List V0
 | .cons a b,x=>qdC a x.1++qaJ b x.2
 | .nil,_=>[]
 | t,x=>qdC t x
def qhF(t:Ty)(x:t.T):List V0:=match t,x with
 | .st c,x=>qaJ c x
 | t,x=>qdC t x
def qmh(t:Ty)(x:t.T):V0:=match t,x with
 | .st c,x=>.ip c x 0
 | t,x=>.ip (.cons t .nil) (x,()) 0
def qad(ob:List (Option Obj))(s:Nat):Option Obj:=ob.getD s none
def qdS:List Dv→Dv
 | []=>⟨.nil,()⟩
 | d::ds=>let r:=qdS ds;⟨.cons d.t r.t,(d.x,r.x)⟩
def qql:(t:Ty)→t.T
 | .int _=>(0:Int)
 | .bool=>false
 | .str=>ByteArray.empty
 | .sl _=>[]
 | .ptr c=>qql c
 | .fn _ c=>qql c
 | .st c=>qql c
 | .nil=>()
 | .cons a b=>(qql a,qql b)
 | .lab t=>(Go.undef,qql t)
def qsR:(t:Ty)→List t.T→Nat→Option Dv
 | .st c,xs,i=>some ⟨.ptr c,xs.getD i (qql c)⟩
 | _,_,_=>none
def qbI(ob:List (Option Obj))(f:V0→Option Dv):V0→Option Dv
 | .d t x=>some ⟨t,x⟩
 | .ip c x 0=>some ⟨.ptr c,x⟩
 | .ip c x off=>(((qaJ c x).drop off).mapM f).map fun ds=>let r:=qdS ds;⟨.ptr r.t,r.x⟩
 | .nils t=>some ⟨.sl t,([]:List t.T)⟩
 | .arr s=>match qad ob s with
  | some (.arr t xs _ _ _)=>some ⟨.sl t,xs⟩
  | _=>none
 | .sub s lo hi sz=>match qad ob s with
  | some (.arr t xs _ _ _)=>if sz=t.size then some ⟨.sl t,(xs.take hi).drop lo⟩ else none
  | _=>none
 | .box s off=>match qad ob s with
  | some (.box cells _ _)=>((cells.drop off).mapM f).map fun ds=>let r:=qdS ds;⟨.ptr r.t,r.x⟩
  | _=>none
 | .elt s i 0 sz=>match qad ob s with
  | some (.arr t xs _ _ _)=>if sz=t.size then qsR t xs i else none
  | _=>none
 | _=>none
def qpm(ob:List (Option Obj)):Nat→V0→Option Dv
 | 0=>fun _=>none
 | n+1=>qbI ob (qpm ob n)
def frz(ob:List (Option Obj))(v:V0):Option Dv:=qpm ob 3 v
def qf7(ob:List (Option Obj))(u:Ty)(v:V0):Option u.T:=(frz ob v).bind (·.to u)
def qfP(ob:List (Option Obj)):(c:Ty)→List V0→Option c.T
 | .nil,[]=>some ()
 | .cons a b,v::vs=>(qf7 ob a v).bind fun x=>(qfP ob b vs).map fun y=>(x,y)
 | _,_=>none
def V.cells:V→List V0
 | .c v=>[v]
 | .agg cs=>cs
 | .tup _=>[]
def qrd(ob:List (Option Obj)):(t:Ty)→V→Option t.T
 | .st c,.agg cs=>qfP ob c cs
 | t,.c v=>qf7 ob t v
 | _,_=>none
def V.ok:V→Bool
 | .c v=>v.sc
 | .agg _=>true
 | .tup _=>false
def V0.refs(s:Nat):V0→Bool
 | .box s' _=>s==s'
 | .arr s'=>s==s'
 | .elt s' _ _ _=>s==s'
 | .sub s' _ _ _=>s==s'
 | _=>false
def V0.kill(s:Nat)(v:V0):V0:=bif v.refs s then .dead else v
def V.kill(s:Nat):V→V
 | .c v=>.c (v.kill s)
 | .agg cs=>.agg (cs.map (·.kill s))
 | .tup vs=>.tup (vs.map fun p=>(p.1,p.2.map (·.kill s)))
def Obj.kill(s:Nat):Obj→Obj
 | .box cs f x=>.box (cs.map (·.kill s)) f x
 | .hlp t xs i d f=>bif s==d then .hol t xs i f else .hlp t xs i d f
 | o=>o
def St.kill(s:Nat)(st:St):St :=
 { fr:=st.fr.map (·.kill s),ob:=st.ob.map fun o=>o.map (·.kill s) }
def St.put(st:St)(dst:Option Nat)(v:V):St :=
 match dst with
 | some d=>{ st with fr:=st.fr.set d v }
 | none=>st
def St.setOb(st:St)(s:Nat)(o:Option Obj):St:={ st with ob:=st.ob.set s o }
def St.newOb(st:St)(s:Nat)(o:Obj):St:=(st.kill s).setOb s (some o)
def St.dropOb(st:St)(s:Nat):St:=(st.kill s).setOb s none
end Ve
namespace Ve
open Go
inductive PM where | imm | io (deep:Bool) | take (deep:Bool) | iob | iobo (k:Nat)
 deriving DecidableEq
inductive RM where | imm | own | deep | bx
 deriving DecidableEq
structure Sig where
 ps:List (Bool×Nat)
 pm:List PM
 out:Ty
 rs:List (Bool×Nat)
 own:List RM
 pt:List Ty
structure Mask where
 live:List Nat
 obl:List Nat
 conv:List (Nat×Nat×Ty×Bool)
 bconv:List (Nat×Nat×Nat×Ty×Bool)
 frzs:List Nat
 undp:List Nat
 tod:List (Nat×Nat)
inductive Ex where | normal | exit (id:Nat) | ret
structure Pol where
 nob:Nat
 adopt:List (Nat×List (Option Nat))
 loopM:List (Nat×Mask)
 blkM:List (Nat×Mask)
 seqM:List (Nat×Mask)
 lp:List (Nat×(St→Option (Ex×St)))
def Sig.dr(sg:Sig):Bool:=!sg.pt.contains .str
def Pol.dr(pol:Pol):Bool:=pol.lp.isEmpty
structure Run where
 r:Nat→List Dv→Option Dv
 w:Option St→(St→Option Dv)→Option Dv
def Run.ok(R:Run):Prop:=∀ a f,R.w (some a) f=f a
abbrev Gls:=List (Nat×(Array Value→Prop))
structure Env where
 P:Program
 fn:Nat→Option (Func×Pol)
 prim:Nat→Option (Run→List Dv→Option Dv)
 sig:Nat→Option Sig
 gs:Gls:=[]
def qgg(R:Run)(f:Nat)(out:Ty)(args:List Dv):Option out.T:=(R.r f args).bind (·.to out)
def qs9:Ty→Ty→Ty
 | .cons a b,c=>.cons a (qs9 b c)
 | _,c=>c
def qpL(u:Ty)(c:Ty):Ty:=match u with
 | .st d=>qs9 d c
 | u=>.cons u c
def qoe(P:Program):Nat→TypeId→Option Ty
 | 0,_=>none
 | n+1,t=>match P.underlying t with
  | some (.int k)=>some (.int k)
  | some .bool=>some .bool
  | some .string=>some .str
  | some (.slice e)=>(qoe P n e).map .sl
  | some (.pointer e)=>(qoe P n e).map fun u=>.ptr (qpL u .nil)
  | some (.struct fs)=>(fs.toList.foldr (fun f acc=>acc.bind fun c=>(qoe P n f.type).map fun u=>qpL u c) (some .nil)).map .st
  | _=>none
def qqI(P:Program)(e:TypeId):Nat:=match P.info? e with
 | some i=>match i.zero with | some z=>z.cells.size | none=>0
 | none=>0
def qfI(P:Program)(t:TypeId):Option (TypeId×Ty):=match P.underlying t with
 | some (.slice e)=>(qoe P 8 e).bind fun u=>if P.cellsOf e=u.size∧0<u.size∧0<P.bytesOf e∧qqI P e=u.size then some (e,u) else none
 | _=>none
def qqg(P:Program)(t:TypeId)(lb:Bool):Option (TypeId×Ty):=(qfI P t).bind fun q=>bif lb then(if q.2.size=1 then some (q.1,.lab q.2) else none) else some q
def V0.unlab:V0→V0
 | .d t x=>(match t,x with
  | .lab t,x=>if t.sc=true then .d t x.2 else .d (.lab t) x
  | t,x=>.d t x)
 | v=>v
def V.unlab:V→V
 | .c v=>.c v.unlab
 | v=>v
def qtd(ob:List (Option Obj)):V→Bool
 | .c (.arr k)=>(match qad ob k with
  | some (.arr (.lab _) _ _ _ _)=>true
  | _=>false)
 | _=>false
def qdm(P:Program)(t:TypeId):Bool:=match P.underlying t with
 | some (.struct _)=>true
 | some (.array _ _)=>true
 | _=>false
def Ty.flat:Ty→Bool
 | .int _=>true | .bool=>true | .str=>true
 | .sl _=>false | .ptr _=>false | .fn _ _=>false
 | .st c=>c.flat | .nil=>true | .cons a b=>a.flat&&b.flat | .lab _=>false
def qga:(t:Ty)→Option t.T
 | .int _=>some (0:Int)
 | .bool=>some false
 | .str=>some ByteArray.empty
 | .sl t=>some ([]:List t.T)
 | .ptr _=>none
 | .fn _ _=>none
 | .lab _=>none
 | .st c=>qga c
 | .nil=>some ()
 | .cons a b=>if a.sc=true then(qga a).bind fun x=>(qga b).map fun y=>(x,y) else none
def qrw:Ty→V0
 | .int k=>.d (.int k) (0:Int)
 | .bool=>.d .bool false
 | .str=>.d .str ByteArray.empty
 | .sl t=>.nils t
 | _=>.dead
def qbf:Ty→List V0
 | .st c=>qbf c
 | .nil=>[]
 | .cons a b=>qrw a::qbf b
 | t=>[qrw t]
def qcL:V0→Value→Bool
 | .d t x,v=>(match t,x with
  | .int k,x=>(match v with | .int k' n=>decide (k=k')&&n==x | _=>false)
  | .bool,x=>(match v with | .bool b=>b==x | _=>false)
  | .str,x=>(match v with | .string s=>s.size==0&&x.size==0 | _=>false)
  | _,_=>false)
 | .nils _,v=>(match v with | .slice none 0 0=>true | _=>false)
 | .dead,_=>true
 | _,_=>false
def qbT:List V0→List Value→Bool
 | [],[]=>true
 | c::cs,v::vs=>qcL c v&&qbT cs vs
 | _,_=>false
def qjy(P:Program)(ty:TypeId):Value→Option V
 | .bool b=>some (vB b)
 | .int k n=>some (vI k n)
 | .string s=>some (vS s)
 | .slice none 0 0=>(qfI P ty).map fun p=>.c (.nils p.2)
 | .agg cs=>(qoe P 8 ty).bind fun t=>if qdm P ty&&qbT (qbf t) cs.toList then some (.agg (qbf t)) else none
 | _=>some .dead
def opd(P:Program)(fr:List V)(ty:TypeId):Operand→Option V
 | .tmp t=>fr[t]?
 | .const v=>qjy P ty v
 | .func f=>some (.c (.d (.fn f .nil) ()))
 | .global _=>none
section
variable {ρ:Type}
open Classical in
noncomputable def qpQ(a b:Option ρ):Option ρ:=if a=b then a else none
def chk(b:Bool):Option Unit:=bif b then some () else none
def qp2(op:BinOp)(vx vy:V)(K:V→Option ρ):Option ρ :=
 match vx.int?,vy.int? with
 | some (k,x),some (k',y)=>match op with
  | .shl=>(chk (decide (0≤y))).bind fun _=>K (vI k (k.wrap (x*2 ^ (min y.toNat k.bits))))
  | .shr=>(chk (decide (0≤y))).bind fun _=>K (vI k (x.fdiv (2 ^ (min y.toNat k.bits))))
  | _=>if k=k' then match op with
   | .add=>K (vI k (k.wrap (x+y)))
   | .sub=>K (vI k (k.wrap (x-y)))
   | .mul=>K (vI k (k.wrap (x*y)))
   | .quo=>(chk (y != 0)).bind fun _=>K (vI k (k.wrap (x.tdiv y)))
   | .rem=>(chk (y != 0)).bind fun _=>K (vI k (x.tmod y))
   | .and=>K (vI k (k.wrap (BitVec.ofInt k.bits x &&& BitVec.ofInt k.bits y).toNat))
   | .or=>K (vI k (k.wrap (BitVec.ofInt k.bits x ||| BitVec.ofInt k.bits y).toNat))
   | .xor=>K (vI k (k.wrap (BitVec.ofInt k.bits x ^^^ BitVec.ofInt k.bits y).toNat))
   | .eql=>K (vB (x==y))
   | .neq=>K (vB (x != y))
   | .lss=>K (vB (decide (x<y)))
   | .leq=>K (vB (decide (x≤y)))
   | .gtr=>K (vB (decide (x>y)))
   | .geq=>K (vB (decide (x≥y)))
   | _=>none
   else none
 | _,_=>match vx.str?,vy.str? with
  | some x,some y=>match op with
   | .add=>(chk (decide (x.size+y.size≤70368744177664))).bind fun _=>K (vS (x++y))
   | .eql=>K (vB (x.toList==y.toList))
   | .neq=>K (vB (!(x.toList==y.toList)))
   | _=>none
  | _,_=>match vx.bool?,vy.bool? with
   | some x,some y=>match op with
    | .eql=>K (vB (x==y))
    | .neq=>K (vB (x != y))
    | _=>none
   | _,_=>none
noncomputable def qqq(vx:V)(st:St)(K:Bool→Option ρ):Option ρ :=
 let go (e:Bool):Option ρ:=bif e then qpQ (K true) (K false) else K false
 match vx with
 | .c (.d t xs)=>(match t,xs with
  | .sl _,xs=>go xs.isEmpty
  | _,_=>none)
 | .c (.nils _)=>go true
 | .c (.arr s)=>match qad st.ob s with
  | some (.arr _ xs _ _ _)=>go xs.isEmpty
  | _=>none
 | _=>none
def qsW(op:UnOp)(vx:V)(K:V→Option ρ):Option ρ :=
 match op with
 | .not=>match vx.bool? with
  | some b=>K (vB (!b))
  | none=>none
 | .neg=>match vx.int? with
  | some (k,x)=>K (vI k (k.wrap (0-x)))
  | none=>none
 | _=>none
def Obj.freeze:Obj→Obj
 | .box cs _ x=>.box cs true x
 | .arr t xs d _ f=>.arr t xs d true f
 | .hol t xs i _=>.hol t xs i true
 | .hlp t xs i d _=>.hlp t xs i d true
 | .bxo c x k a _ fx=>.bxo c x k a true fx
def freezeN:Nat→List (Option Obj)→V0→List (Option Obj)
 | 0,ob,_=>ob
 | n+1,ob,v=>match v with
  | .arr s | .sub s _ _ _ | .elt s _ _ _=>ob.modify s (·.map Obj.freeze)
  | .box s _=>match qad ob s with
   | some (.box cs _ _)=>cs.foldl (freezeN n) (ob.modify s (·.map Obj.freeze))
   | _=>ob
  | _=>ob
def freeze(ob:List (Option Obj))(v:V0):List (Option Obj):=freezeN 3 ob v
def idx?{α:Type}(xs:List α)(i:Int):Option α:=bif decide (0≤i) then xs[i.toNat]? else none
def qe8(ob:List (Option Obj)):V0→Option (List Nat)
 | .arr s=>match qad ob s with
  | some (.arr _ _ true false false)=>some [s]
  | _=>none
 | .nils _=>some []
 | .d t _=>if t.flat then some [] else none
 | _=>none
def qaP(ob:List (Option Obj)):List V0→Option (List Nat)
 | []=>some []
 | v::vs=>(qe8 ob v).bind fun l=>(qaP ob vs).bind fun m=>if l.all (fun s=>!m.contains s) then some (l++m) else none
def qbS(st:St)(cells:List V0):Bool×St :=
 match qaP st.ob cells with
 | some l=>(true,l.foldl (fun st s=>st.dropOb s) st)
 | none=>(false,{ st with ob:=cells.foldl freeze st.ob })
def qct(P:Program)(fr:List V)(ty:TypeId):List (Nat×Operand)→Nat→Option (List V)
 | [],_=>some []
 | (i,x)::rest,n=>if i=n then(opd P fr ty x).bind fun v=>if v.ok=false then none else(qct P fr ty rest (n+1)).map fun vs=>v::vs else none
def qoS(ob:List (Option Obj))(t:Ty):List V→Option (List t.T)
 | []=>some []
 | v::vs=>(qrd ob t v).bind fun x=>(qoS ob t vs).map fun xs=>x::xs
def cellsV(agg:Bool)(cs:List V0):Option V :=
 if agg then some (.agg cs) else match cs with | [v]=>some (.c v) | _=>none
def qnh(P:Program)(t:TypeId)(cs:List V0):Option V:=match P.underlying t with
 | none=>none
 | some _=>cellsV (qdm P t) cs
def qpq(P:Program)(t:TypeId)(a:V)(st:St)(K:V→St→Option ρ):Option ρ :=
  let n:=P.cellsOf t
  let fin (cs:List V0) (st:St):Option ρ:=if cs.length=n then(qnh P t cs).bind fun v=>K v st else none
  match a with
  | .c (.ip c x off)=>fin (((qaJ c x).drop off).take n) st
  | .c (.box s off)=>match qad st.ob s with
    | some (.box cells _ _)=>fin ((cells.drop off).take n) st
    | _=>none
  | .c (.elt s i off sz)=>match qad st.ob s with
    | some (.arr u xs d fz fx)=>if sz=u.size then(xs[i]?).bind fun y =>
        fin (((qhF u y).drop off).take n) (bif u.flat then st else st.setOb s (some (.arr u xs (d&&fz) fz fx))) else none
    | _=>none
  | _=>none
def qhN(P:Program)(t:TypeId)(a:V)(d:Nat)(st:St)(K:V→St→Option ρ):Option ρ :=
  match a with
  | .c (.elt s i off sz)=>match P.underlying t,qad st.ob s with
    | some (.slice _),some (.arr (.sl u) xs true false false)=>if sz=1∧off=0∧P.cellsOf t=1∧qdm P t=false then
        (xs[i]?).bind fun y=>K (.c (.arr d)) ((st.setOb s (some (.hol (.sl u) xs i false))).newOb d (.arr u y true false false)) else none
    | _,_=>none
  | _=>none
def qiy(P:Program)(t:TypeId)(s i:Nat)(v:V)(st:St)(K:St→Option ρ):Option ρ :=
  match qad st.ob s with
  | some (.hol (.sl u) xs j false)=>match v with
    | .c (.arr d)=>match qad st.ob d with
      | some (.arr u' ys true false false)=>(cast? (.sl u') (.sl u) ys).bind fun ys=>if P.cellsOf t=1 then
          (chk (decide (i=j))).bind fun _=>K ((st.dropOb d).setOb s (some (.arr (.sl u) (xs.set i ys) true false false))) else none
      | _=>none
    | _=>none
  | _=>none
def qcQ(d:Dv):(t:Ty)→t.T→Option t.T
 | .st c,y=>qcQ d c y
 | .cons a .nil,_=>(d.to a).map fun x=>(x,())
 | .cons _ (.cons b c),y=>(qcQ d (.cons b c) y.2).map fun z=>(y.1,z)
 | _,_=>none
def qrk:Ty→Ty
 | .st c=>qrk c
 | .cons a .nil=>a
 | .cons _ b=>qrk b
 | t=>t
def qja:(t:Ty)→t.T→Option Dv
 | .st c,y=>qja c y
 | .cons a .nil,y=>some ⟨a,y.1⟩
 | .cons _ (.cons b c),y=>qja (.cons b c) y.2
 | _,_=>none
def qf4(P:Program)(t:TypeId)(s i off sz d:Nat)(st:St)(K:V→St→Option ρ):Option ρ :=
  match P.underlying t,qad st.ob s with
  | some (.slice _),some (.arr u xs true false false)=>if off+1=sz∧sz=u.size∧P.cellsOf t=1∧qdm P t=false∧d≠s then
      (xs[i]?).bind fun y=>(qja u y).bind fun l=>match l with
        | ⟨.sl v,ys⟩=>K (.c (.arr d)) ((st.newOb d (.arr v ys true false false)).setOb s (some (.hlp u xs i d false)))
        | _=>none
      else none
  | _,_=>none
def qpK(P:Program)(t:TypeId)(s i off sz:Nat)(st:St)(K:V→St→Option ρ):Option ρ :=
  match P.underlying t,qad st.ob s with
  | some (.slice _),some (.arr u xs true false false)=>if off+1=sz∧sz=u.size∧P.cellsOf t=1∧qdm P t=false then
      (xs[i]?).bind fun y=>(qja u y).bind fun l=>match l with
        | ⟨.sl v,ys⟩=>K (.c (.ln (List.length ys))) st
        | _=>none
      else none
  | _,_=>none
def qrX(d:Nat):List (Option Obj)→Nat→Option Nat
 | [],_=>none
 | some (.hlp _ _ _ d' _)::os,n=>bif d'==d then some n else qrX d os (n+1)
 | _::os,n=>qrX d os (n+1)
def qh4(a:V)(st:St)(K:St→Option ρ):Option ρ :=
  match a with
  | .c (.elt d _ _ _)=>match qrX d st.ob 0 with
    | some s=>match qad st.ob s,qad st.ob d with
      | some (.hlp t xs i d' false),some (.arr v ys true false false)=>if d'=d∧s≠d then
          (xs[i]?).bind fun y=>(qcQ ⟨.sl v,ys⟩ t y).bind fun y'=>K ((st.dropOb d).setOb s (some (.arr t (xs.set i y') true false false))) else none
      | _,_=>none
    | none=>K st
  | _=>K st
def qdd(va:V)(st0:St)(v:V)(st:St):V×St:=match va with
  | .c (.box s off)=>match qad st0.ob s with
    | some (.box cs0 _ _)=>match cs0[off]? with
      | some (.arr a)=>match qad st.ob s,qad st.ob a with
        | some (.box cs false fx),some (.arr t xs d false false)=>match cs[off]? with
          | some (.sub a' 0 hi sz)=>if a'=a∧a≠s then
              (v.kill a,(st.newOb a (.arr t (xs.take hi) d false false)).setOb s (some (.box ((cs.map (·.kill a)).set off (.arr a)) false fx)))
            else(v,st)
          | _=>(v,st)
        | _,_=>(v,st)
      | _=>(v,st)
    | _=>(v,st)
  | _=>(v,st)
def qe6(st:St)(s i off sz n:Nat)(v0:V0)(K:St→Option ρ):Option ρ :=
  match qbS st [v0] with
  | (true,st1)=>match qad st1.ob s with
    | some (.arr u xs true false fx)=>match qrk u with
      | .sl t=>if n=1∧off+1=u.size∧sz=u.size∧V0.sc v0=true then
          (qf7 st.ob (.sl t) v0).bind fun ys=>(xs[i]?).bind fun y=>(qcQ ⟨.sl t,ys⟩ u y).bind fun y'=>K (st1.setOb s (some (.arr u (xs.set i y') true false fx))) else none
      | _=>none
    | _=>none
  | _=>none
def qiq(P:Program)(t:TypeId)(a v:V)(st:St)(K:St→Option ρ):Option ρ :=
 let n:=P.cellsOf t
 match a with
 | .c (.box s off)=>match qad st.ob s with
  | some (.box cells false fx) =>
   if n≠0∧v.cells.length=n∧off+n≤cells.length∧v.ok=true∧v.cells.all V0.sc=true then K (st.setOb s (some (.box (cells.take off++v.cells++cells.drop (off+n)) false fx))) else none
  | _=>none
 | .c (.elt s i off sz)=>match qad st.ob s with
  | some (.arr u xs d false fx) =>
   if n≠0∧v.cells.length=n∧off=0∧u.size=n∧sz=n∧v.ok=true∧v.cells.all V0.sc=true then
    (qrd st.ob u v).bind fun y =>
     bif u.flat then K (st.setOb s (some (.arr u (xs.set i y) d false fx)))
     else let r:=qbS st v.cells
      match qad r.2.ob s with
      | some (.arr u' xs' d' false fx')=>(cast? (.sl u') (.sl u) xs').bind fun xs'=>K (r.2.setOb s (some (.arr u (xs'.set i y) (d'&&r.1) false fx')))
      | _=>none
   else match v with
    | .c v0=>if off≠0 then qe6 st s i off sz n v0 K else none
    | _=>none
  | some (.hol ..)=>if off=0∧sz=1 then qiy P t s i v st K else none
  | _=>none
 | _=>none
def qe2(P:Program)(s:TypeId)(a:V)(f:Nat)(K:V→Option ρ):Option ρ :=
 match P.underlying s with
 | some (.struct fs)=>match fs[f]? with
  | some fd=>if P.cellsOf fd.type=0 then none else match a with
   | .c (.ip c x off)=>K (.c (.ip c x (off+fd.offset)))
   | .c (.box s off)=>K (.c (.box s (off+fd.offset)))
   | .c (.elt s i off sz)=>K (.c (.elt s i (off+fd.offset) sz))
   | _=>none
  | none=>none
 | _=>none
def qmt(P:Program)(s:TypeId)(a:V)(f:Nat)(K:V→Option ρ):Option ρ :=
 match P.underlying s with
 | some (.struct fs)=>match fs[f]? with
  | some fd=>match a with
   | .agg cs=>let n:=P.cellsOf fd.type
    let l:=(cs.drop fd.offset).take n
    if l.length=n then(qnh P fd.type l).bind K else none
   | _=>none
  | none=>none
 | _=>none
def qhV(P:Program)(t:TypeId):Option Nat:=match P.underlying t with
 | some (.slice e)=>(P.underlying e).map fun _=>P.cellsOf e
 | _=>none
def qdA(m:Nat)(x i:V)(st:St)(K:V→Option ρ):Option ρ :=
 match i.int? with
 | some (_,i)=>match x with
  | .c (.d t xs)=>(match t,xs with
   | .sl u,xs=>if u.size=m then(idx? xs i).bind fun y=>K (.c (qmh u y)) else none
   | _,_=>none)
  | .c (.arr s)=>match qad st.ob s with
   | some (.arr u xs _ _ _)=>if u.size=m then(chk (decide (0≤i)&&decide (i<(xs.length:Int)))).bind fun _=>K (.c (.elt s i.toNat 0 m)) else none
   | some (.hol u xs _ _)=>if u.size=m then(chk (decide (0≤i)&&decide (i<(xs.length:Int)))).bind fun _=>K (.c (.elt s i.toNat 0 m)) else none
   | _=>none
  | .c (.sub s lo hi sz)=>match qad st.ob s with
   | some (.arr u xs _ _ _)=>if sz=u.size∧sz=m then(chk (decide (0≤i)&&decide (lo+i<(hi:Int))&&decide (hi≤xs.length))).bind fun _=>K (.c (.elt s (lo+i.toNat) 0 sz)) else none
   | _=>none
  | _=>none
 | none=>none
def qku(x i:V)(K:V→Option ρ):Option ρ :=
 match i.int?,x.str? with
 | some (_,i),some s=>(idx? s.toList i).bind fun b=>K (vI .u8 (b.toNat:Int))
 | _,_=>none
def qgf(v:Option (Option V)):Option (Option Int):=match v with
 | none=>some none
 | some none=>none
 | some (some v)=>match v.int? with | some (_,i)=>some (some i) | none=>none
def qml(s:ByteArray)(lo hi:Option Int)(K:V→Option ρ):Option ρ:=match lo,hi with
 | none,none=>K (vS s)
 | some a,none=>(chk (decide (0≤a)&&decide (a≤(s.size:Int)))).bind fun _=>K (vS (s.extract a.toNat s.size))
 | none,some b=>(chk (decide (0≤b)&&decide (b≤(s.size:Int)))).bind fun _=>K (vS (s.extract 0 b.toNat))
 | some a,some b=>(chk (decide (0≤a)&&decide (a≤b)&&decide (b≤(s.size:Int)))).bind fun _=>K (vS (s.extract a.toNat b.toNat))
def qrW(u:Ty)(xs:List u.T)(lo hi:Option Int)(K:V→Option ρ):Option ρ:=match lo,hi with
 | none,none=>K (.c (.d (.sl u) xs))
 | some a,none=>(chk (decide (0≤a)&&decide (a≤(xs.length:Int)))).bind fun _=>K (.c (.d (.sl u) (xs.drop a.toNat)))
 | none,some b=>(chk (decide (0≤b)&&decide (b≤(xs.length:Int)))).bind fun _=>K (.c (.d (.sl u) (xs.take b.toNat)))
 | some a,some b=>(chk (decide (0≤a)&&decide (a≤b)&&decide (b≤(xs.length:Int)))).bind fun _=>K (.c (.d (.sl u) ((xs.take b.toNat).drop a.toNat)))
def qrN(s m n:Nat)(lo hi:Option Int)(K:V→Option ρ):Option ρ:=match lo,hi with
 | none,none=>K (.c (.arr s))
 | some a,none=>(chk (decide (0≤a)&&decide (a≤(n:Int)))).bind fun _=>K (.c (.sub s a.toNat n m))
 | none,some b=>(chk (decide (0≤b)&&decide (b≤(n:Int)))).bind fun _=>K (.c (.sub s 0 b.toNat m))
 | some a,some b=>(chk (decide (0≤a)&&decide (a≤b)&&decide (b≤(n:Int)))).bind fun _=>K (.c (.sub s a.toNat b.toNat m))
def qma(P:Program)(t:TypeId)(x:V)(lo hi mx:Option (Option V))(st:St)(K:V→Option ρ):Option ρ :=
 match qgf lo,qgf hi,qgf mx with
 | some lo,some hi,some none=>match x with
  | .c (.d t' xs)=>(match t',xs with
   | .sl u,xs=>if qhV P t=some u.size then qrW u xs lo hi K else none
   | .str,s=>(match P.underlying t with | some .string=>qml s lo hi K | _=>none)
   | _,_=>none)
  | .c (.arr s)=>match qad st.ob s with
   | some (.arr u xs _ _ _)=>if qhV P t=some u.size then qrN s u.size xs.length lo hi K else none
   | _=>none
  | _=>none
 | some none,some (some 0),some (some 0)=>(qhV P t).bind fun _=>match x with
  | .c (.d t _)=>(match t with
   | .sl u=>K (.c (.nils u))
   | _=>none)
  | .c (.nils u)=>K (.c (.nils u))
  | .c (.arr s)=>match qad st.ob s with
   | some (.arr u _ _ _ _)=>K (.c (.nils u))
   | _=>none
  | _=>none
 | _,_,_=>none
def qdu:Operand→Operand→Bool
 | .tmp a,.tmp b=>a==b
 | .const (.int _ a),.const (.int _ b)=>a==b
 | _,_=>false
def qe4(P:Program)(t:TypeId)(l c:Operand)(vl:V)(site:Option Nat)(st:St)(K:V→St→Option ρ):Option ρ :=
  match qfI P t,vl.int?,site with
  | some (e,u),some (_,n),some site=>match P.info? e with
    | some i=>match i.zero with
      | some zv=>if qdu l c=true∧qbT (qbf u) zv.cells.toList=true then
          (qga u).bind fun z =>
            (chk (decide (0≤n)&&decide (n*P.bytesOf e≤70368744177664))).bind fun _ =>
              K (.c (.arr site)) (st.newOb site (.arr u (List.replicate n.toNat z) true false false))
        else none
      | none=>none
    | none=>none
  | _,_,_=>none
def qmf(P:Program)(t:TypeId)(site:Option Nat)(st:St)(K:V→St→Option ρ):Option ρ :=
 match qoe P 8 t,P.info? t,site with
 | some u,some i,some site=>match i.zero with
  | some z=>if qbT (qbf u) z.cells.toList then K (.c (.box site 0)) (st.newOb site (.box (qbf u) false false)) else none
  | none=>none
 | _,_,_=>none
def qrr(v:V)(site:Option Nat)(st:St)(K:V→St→Option ρ):Option ρ :=
 match site with
 | some site=>match v with
  | .tup _=>none
  | v =>
   let st':=st.kill site
   K (.c (.box site 0)) (st'.setOb site (some (.box ((v.kill site).cells) false false)))
 | none=>none
def qkh(P:Program)(t:TypeId)(parts:List (Nat×Operand))(fr:List V)(K:V→Option ρ):Option ρ :=
  match P.underlying t,P.info? t,qoe P 8 t with
  | some (.struct fs),some inf,some u =>
    match inf.zero with
    | some z=>if qbT (qbf u) z.cells.toList then
        let r:=parts.foldl (fun(acc:Option (List V0)) (p:Nat×Operand)=>acc.bind fun cells =>
          (fs[p.1]?).bind fun fd=>(opd P fr fd.type p.2).bind fun v =>
            if v.ok=true∧v.cells.length=P.cellsOf fd.type∧fd.offset+v.cells.length≤cells.length
              then some (cells.take fd.offset++v.cells++cells.drop (fd.offset+v.cells.length)) else none) (some (qbf u))
        r.bind fun cells=>K (.agg cells)
      else none
    | none=>none
  | _,_,_=>none
def qd8(P:Program)(t:TypeId)(len:Nat)(parts:List (Nat×Operand))(lb:Bool)(site:Option Nat)(st:St)(K:V→St→Option ρ):Option ρ :=
 match qqg P t lb,site with
 | some (e,u),some site =>
  if parts.length=len∧len*u.size≤16777216 then
   (qct P st.fr e parts 0).bind fun vs0 =>
    let vs:=bif lb then vs0 else vs0.map V.unlab
    (qoS st.ob u vs).bind fun xs =>
     let r:=qbS st (vs.flatMap V.cells)
     K (.c (.arr site)) (r.2.newOb site (.arr u xs (u.flat || r.1) false false))
  else none
 | _,_=>none
def qg0(P:Program)(t:TypeId)(s x:V)(site:Option Nat)(st:St)(K:V→St→Option ρ):Option ρ :=
  match qqg P t (qtd st.ob s) with
  | some (e,u) =>
    match x with
    | .c xc =>
      (qf7 st.ob (.sl u) xc).bind fun ys =>
        let r:Bool×St:=bif u.flat then(true,st) else qbS st [xc]
        match s with
        | .c (.nils _)=>match site with
          | some site=>(chk (decide (ys.length*P.bytesOf e≤70368744177664))).bind fun _ =>
              K (.c (.arr site)) (r.2.newOb site (.arr u ys (u.flat || r.1) false false))
          | none=>none
        | .c (.arr s)=>match qad r.2.ob s with
          | some (.arr u' xs d false false) =>
            (cast? (.sl u') (.sl u) xs).bind fun xs =>
              (chk (decide ((xs.length+ys.length)*P.bytesOf e≤70368744177664))).bind fun _ =>
                bif xc.refs s then none else K (.c (.arr s)) (r.2.newOb s (.arr u (xs++ys) (d&&(u.flat || r.1)) false false))
          | _=>none
        | _=>none
    | _=>none
  | none=>none
def qmY(P:Program)(t:TypeId)(dst src:V)(st:St)(K:V→St→Option ρ):Option ρ :=
 match qfI P t with
 | some (_,u) =>
  if u.flat then
  match dst,src with
  | .c dst,.c srcc =>
   let go (s lo hi:Nat):Option ρ:=match qad st.ob s with
    | some (.arr u' xs d false fx) =>
     bif srcc.refs s then none else
     (cast? (.sl u') (.sl u) xs).bind fun xs =>
      (qf7 st.ob (.sl u) srcc).bind fun ys =>
       (chk (decide (lo≤hi)&&decide (hi≤xs.length))).bind fun _ =>
        K (vI .i64 (min ys.length (hi-lo):Nat)) (st.setOb s (some (.arr u (xs.take lo++ys.take (hi-lo)++xs.drop (lo+(ys.take (hi-lo)).length)) d false fx)))
    | _=>none
   match dst with
   | .sub s lo hi sz=>if sz=u.size then go s lo hi else none
   | .arr s=>match qad st.ob s with
    | some (.arr _ xs _ _ _)=>go s 0 xs.length
    | _=>none
   | _=>none
  | _,_=>none
  else none
 | none=>none
def qkq(P:Program)(t:TypeId)(x:V)(st:St)(K:V→St→Option ρ):Option ρ :=
  match x with
  | .c (.sub s lo hi sz)=>match qad st.ob s with
    | some (.arr (.lab (.sl u)) xs false false fx)=>match qfI P t with
      | some (e,u')=>match (P.info? e).bind (·.zero) with
        | some z=>if u'=.sl u∧sz=1∧qbT [.nils u] z.cells.toList=true then
            (chk (decide (lo≤hi)&&decide (hi≤xs.length))).bind fun _ =>
              K (.tup []) (st.setOb s (some (.arr (.lab (.sl u)) (xs.take lo++List.replicate (hi-lo) (Value.slice none 0 0,[])++xs.drop hi) false false fx)))
          else none
        | none=>none
      | none=>none
    | _=>none
  | _=>none
def qqe(P:Program)(t:TypeId)(x:V)(st:St)(K:V→Option ρ):Option ρ :=
 match P.underlying t with
 | some .string=>match x.str? with
  | some s=>K (vI .i64 (s.size:Int))
  | none=>none
 | some (.slice _)=>match x with
  | .c (.d t xs)=>(match t,xs with
   | .sl _,xs=>K (vI .i64 (xs.length:Int))
   | _,_=>none)
  | .c (.nils _)=>K (vI .i64 0)
  | .c (.ln n)=>K (vI .i64 (n:Int))
  | .c (.arr s)=>match qad st.ob s with
   | some (.arr _ xs _ _ _)=>K (vI .i64 (xs.length:Int))
   | _=>none
  | .c (.sub s lo hi _)=>match qad st.ob s with
   | some (.arr _ xs _ _ _)=>(chk (decide (lo≤hi)&&decide (hi≤xs.length))).bind fun _=>K (vI .i64 ((hi-lo:Nat):Int))
   | _=>none
  | _=>none
 | _=>none
def qhu(P:Program)(src dst:TypeId)(x:V)(st:St)(K:V→Option ρ):Option ρ :=
 match P.underlying src,P.underlying dst with
 | some _,some (.int k)=>match x.int? with
  | some (_,n)=>K (vI k (k.wrap n))
  | none=>none
 | some (.slice e),some .string=>match P.underlying e,x with
  | some (.int .u8),.c xc=>(qf7 st.ob (.sl (.int .u8)) xc).bind fun ys=>K (vS ⟨(ys.map fun n=>UInt8.ofNat n.toNat).toArray⟩)
  | _,_=>none
 | some .string,some (.slice e)=>match P.underlying e,x.str? with
  | some (.int .u8),some s=>K (.c (.d (.sl (.int .u8)) (s.toList.map fun b=>(b.toNat:Int))))
  | _,_=>none
 | _,_=>none
end
end Ve
namespace Ve
open Go
def qcx:Ty→List Ty
 | .cons a b=>a::qcx b
 | _=>[]
def qbs:Nat→List (Option Obj)→V0→List Nat
 | 0,_,_=>[]
 | n+1,ob,v=>match v with
  | .arr s | .sub s _ _ _ | .elt s _ _ _=>[s]
  | .box s _=>match qad ob s with
   | some (.box cs _ _)=>s::cs.flatMap (qbs n ob)
   | _=>[]
  | _=>[]
def qdJ(ob:List (Option Obj))(v:V0):List Nat:=qbs 3 ob v
def qmV(sg:Sig):Nat:=(sg.rs.map (·.2)).sum
def qhy:List RM→List Ty→Bool
 | _,[]=>true
 | ms,t::ts=>(match ms.headD .imm,t with
  | .imm,t=>t.flat
  | .own,.sl t=>t.flat
  | .own,_=>false
  | .deep,_=>true
  | .bx,.ptr c=>c.flat
  | .bx,_=>false)&&qhy ms.tail ts
def qcS:List PM→List Ty→Bool
 | [],_=>true
 | .imm::pm,ts=>qcS pm ts
 | .take _::pm,ts=>qcS pm ts
 | .io dp::pm,t::ts=>(dp || (match t with | .sl t=>t.flat | _=>false))&&qcS pm ts
 | .iob::pm,t::ts=>(match t with | .ptr c=>c.flat | _=>false)&&qcS pm ts
 | .iobo _::_,_::_=>false
 | _::_,[]=>false
def Sig.closed(sg:Sig):Bool:=qhy sg.own ((qcx sg.out).take (qmV sg))&&qcS sg.pm ((qcx sg.out).drop (qmV sg))
def qaz(pm:List PM)(i:Nat):PM:=pm.getD i .imm
def pre?:(c' c:Ty)→c.T→Option c'.T
 | .nil,_,_=>some ()
 | .cons a b,.cons a' b',x=>(cast? a' a x.1).bind fun y=>(pre? b b' x.2).map fun z=>(y,z)
 | _,_,_=>none
def qm2(t:Ty)(d:Dv):Dv:=match t,d.t,d.x with
 | .ptr c',.ptr c,x=>match pre? c' c x with
  | some y=>⟨.ptr c',y⟩
  | none=>⟨.ptr c,x⟩
 | _,.lab t',x=>⟨t',x.2⟩
 | _,t',x=>⟨t',x⟩
def qem(ob:List (Option Obj))(m:PM)(t:Ty)(v:V0):Option Dv:=match m with
 | .imm=>(frz ob v).map (qm2 t)
 | .io dp=>match v with
  | .arr s=>match qad ob s with
   | some (.arr t xs d false _)=>if dp=true∧d=false then none else some ⟨.sl t,xs⟩
   | _=>none
  | _=>none
 | .take dp=>match v with
  | .arr s=>match qad ob s with
   | some (.arr t xs d false false)=>if dp=true∧d=false then none else some ⟨.sl t,xs⟩
   | _=>none
  | .nils t=>some ⟨.sl t,([]:List t.T)⟩
  | _=>none
 | .iob=>match v with
  | .box s 0=>match qad ob s with
   | some (.box _ false _)=>frz ob (.box s 0)
   | _=>none
  | _=>none
 | .iobo k=>match v with
  | .box s 0=>match qad ob s with
   | some (.bxo c x k' _ false _)=>if k'=k then some ⟨.ptr c,x⟩ else none
   | _=>none
  | _=>none
def qkv(ob:List (Option Obj))(pm:List PM)(pt:List Ty):Nat→List V0→Option (List Dv)
 | _,[]=>some []
 | i,v::vs=>(qem ob (qaz pm i) (pt.getD i .nil) v).bind fun d=>(qkv ob pm pt (i+1) vs).map fun ds=>d::ds
def qbn(m:PM)(v:V0):List Nat:=match m,v with
 | .imm,_=>[]
 | .iob,.box s _=>[s]
 | .iobo _,.box s _=>[s]
 | .iobo _,_=>[]
 | _,.arr s=>[s]
 | _,_=>[]
def qa6(pm:List PM):Nat→List V0→List Nat
 | _,[]=>[]
 | i,v::vs=>qbn (qaz pm i) v++qa6 pm (i+1) vs
def qpb(ob:List (Option Obj))(m:PM)(v:V0):List Nat:=match m with
 | .imm=>qdJ ob v
 | .iob=>(qdJ ob v).tail
 | _=>[]
def qme(ob:List (Option Obj))(pm:List PM):Nat→List V0→List Nat
 | _,[]=>[]
 | i,v::vs=>qpb ob (qaz pm i) v++qme ob pm (i+1) vs
def qjm:List Nat→Bool
 | []=>true
 | a::l=>!l.contains a&&qjm l
def qk0(pm:List PM):Nat→List V0→St→St
 | _,[],st=>st
 | i,v::vs,st=>qk0 pm (i+1) vs (match qaz pm i,v with
  | .take _,.arr s=>st.dropOb s
  | _,_=>st)
def ios(pm:List PM):Nat→List V0→List V0→St→Option St
 | _,[],_,st=>some st
 | i,v::vs,rs,st=>match qaz pm i with
  | .io dp=>match v,rs with
   | .arr s,.d t x::rs=>match t,x with
    | .sl u,xs=>match qad st.ob s with
     | some (.arr _ _ _ _ fx)=>ios pm (i+1) vs rs (st.setOb s (some (.arr u xs (u.flat || dp) false fx)))
     | _=>none
    | _,_=>none
   | _,_=>none
  | .iob=>match v,rs with
   | .box s _,.ip c x 0::rs=>match qad st.ob s with
    | some (.box _ false fx)=>ios pm (i+1) vs rs (st.setOb s (some (.box (qaJ c x) false fx)))
    | _=>none
   | _,_=>none
  | .iobo k=>match v,rs with
   | .box s _,.ip c x 0::rs=>match qad st.ob s with
    | some (.bxo _ _ _ a false fx)=>ios pm (i+1) vs rs (st.setOb s (some (.bxo c x k a false fx)))
    | _=>none
   | _,_=>none
  | _=>ios pm (i+1) vs rs st
def qbZ:List RM→List (Option Nat)→List V0→List V0→St→Option (List V0×St)
 | _,_,[],acc,st=>some (acc,st)
 | ms,os,v::vs,acc,st =>
  match os.headD none with
  | none=>qbZ ms.tail os.tail vs (acc++[v]) st
  | some site=>match ms.headD .imm,v with
   | .imm,_=>none
   | .bx,.ip c x 0=>qbZ ms.tail os.tail vs (acc.map (·.kill site)++[.box site 0]) (st.newOb site (.box (qaJ c x) false false))
   | .bx,_=>none
   | m,.d t x=>match t,x with
    | .sl u,xs=>qbZ ms.tail os.tail vs (acc.map (·.kill site)++[.arr site]) (st.newOb site (.arr u xs (u.flat || m==.deep) false false))
    | _,_=>none
   | _,_=>none
def qj6:List (Bool×Nat)→List V0→List (Bool×List V0)
 | [],_=>[]
 | (a,n)::gs,cs=>(a,cs.take n)::qj6 gs (cs.drop n)
def qbv:(c:Ty)→c.T→List Dv
 | .cons a b,x=>⟨a,x.1⟩::qbv b x.2
 | _,_=>[]
def qb4(d:Dv):V0:=qgq d.t d.x
def qpD(gs:List (Bool×Nat))(cs:List V0):Option V:=match gs with
 | [(a,_)]=>cellsV a cs
 | gs=>some (.tup (qj6 gs cs))
def qkI:V0→Option Dv
 | .d t x=>some ⟨t,x⟩
 | .ip c x 0=>some ⟨.ptr c,x⟩
 | .nils t=>some ⟨.sl t,([]:List t.T)⟩
 | _=>none
def qlI(ob:List (Option Obj)):Nat→List V0→Option Dv
 | 0,.arr a::cs=>match qad ob a with
  | some (.arr u xs _ false false)=>(cs.mapM qkI).map fun ds=>let r:=qdS ds;⟨.cons (.sl u) r.t,(xs,r.x)⟩
  | _=>none
 | k+1,c::cs=>(qkI c).bind fun d=>bif d.t.sc then(qlI ob k cs).map fun r=>⟨.cons d.t r.t,(d.x,r.x)⟩ else none
 | _,_=>none
def qg3(s k:Nat)(st:St):Option St:=match qad st.ob s with
 | some (.box cs false fx)=>match cs[k]? with
  | some (.arr a)=>match qad st.ob a with
   | some (.arr u xs _ false false)=>if a=s then none else(qlI st.ob k cs).map fun r=>((st.setOb a (some (.arr u xs false false false))).dropOb a).setOb s (some (.bxo r.t r.x k a false fx))
   | _=>none
  | _=>none
 | _=>none
def qrp:Nat→(c:Ty)→c.T→Option Dv
 | 0,.cons a _,x=>some ⟨a,x.1⟩
 | k+1,.cons _ b,x=>qrp k b x.2
 | _,_,_=>none
def qgc(s:Nat)(v:V)(st:St):V×St:=match qad st.ob s with
  | some (.bxo c x k a false fx)=>match qrp k c x with
    | some ⟨.sl u,xs⟩=>if a=s then(v,st) else
        (v.kill a,((st.setOb s (some (.box ((qaJ c x).map fun _=>.dead) false fx))).newOb a (.arr u xs u.flat false false)).setOb s (some (.box ((qaJ c x).set k (.arr a)) false fx)))
    | _=>(v,st)
  | _=>(v,st)
def qiO(pm:List PM):Nat→List V0→List (Nat×Nat)
 | _,[]=>[]
 | i,v::vs=>(match qaz pm i,v with
  | .iobo k,.box s 0=>[(s,k)]
  | _,_=>[])++qiO pm (i+1) vs
def qsg(ob:List (Option Obj))(pm:List PM)(cells:List V0):List Nat:=(qiO pm 0 cells).flatMap fun p=>match qad ob p.1 with
 | some (.box cs _ _)=>(match cs[p.2]? with
  | some (V0.arr a)=>[a]
  | _=>[])
 | _=>[]
def qqF:List PM→Nat→List (Nat×Nat)
 | [],_=>[]
 | .iobo k::pm,i=>(i,k)::qqF pm (i+1)
 | _::pm,i=>qqF pm (i+1)
def qpy(pm:List PM)(base:Nat)(st:St):St:=match qqF pm 0 with
 | [(i,_)]=>(qgc (base+i) .undef st).2
 | _=>st
def qnx(pm:List PM)(base:Nat)(st:St):Option St:=match qqF pm 0 with
 | [(i,k)]=>qg3 (base+i) k st
 | _=>some st
section
variable {ρ:Type}
def qfX(E:Env)(R:Run)(pol:Pol)(f:Nat)(gs:List (Bool×Nat))(cells:List V0)(dst:Option Nat)(st:St)(K:V→St→Option ρ):Option ρ :=
 match E.sig f with
 | none=>none
 | some sg =>
  let h:=qa6 sg.pm 0 cells
  let l:=qme st.ob sg.pm 0 cells
  if gs=sg.ps∧(!pol.dr || sg.dr)=true∧qjm h=true∧l.all (fun s=>!h.contains s)=true∧gs.all (fun p=>p.1 || p.2==1)=true∧sg.rs.all (fun p=>p.1 || p.2==1)=true then
   (qkv st.ob sg.pm sg.pt 0 cells).bind fun args =>
    (qgg R f sg.out args).bind fun r =>
     let rc:=(qbv sg.out r).map qb4
     let n:=qmV sg
     let st1:=qk0 sg.pm 0 cells st
     let st2:=bif sg.closed then st1 else { st1 with ob:=l.foldl (fun ob s=>bif h.contains s then ob else ob.modify s (·.map Obj.freeze)) st1.ob }
     (ios sg.pm 0 cells (rc.drop n) st2).bind fun st3 =>
      (qbZ sg.own ((dst.bind fun d=>pol.adopt.lookup d).getD []) (rc.take n) [] st3).bind fun p =>
       (qpD sg.rs p.1).bind fun v=>K v p.2
  else none
def qjr(E:Env)(R:Run)(pol:Pol)(f:Nat)(gs:List (Bool×Nat))(cells:List V0)(dst:Option Nat)(st:St)(K:V→St→Option ρ):Option ρ :=
 match E.sig f with
 | none=>none
 | some sg=>match qiO sg.pm 0 cells with
  | []=>qfX E R pol f gs cells dst st K
  | [(s,k)]=>(qg3 s k st).bind fun st=>qfX E R pol f gs cells dst st fun v st=>let p:=qgc s v st;K p.1 p.2
  | _=>none
def V.isC:V→Bool
 | .c _=>true
 | _=>false
def V.shape:V→Bool×Nat
 | .agg cs=>(true,cs.length)
 | .c _=>(false,1)
 | .tup _=>(false,0)
def qls(P:Program)(fr:List V):List Operand→List TypeId→Option (List V)
 | [],_=>some []
 | x::xs,ts=>(opd P fr (ts.headD 0) x).bind fun v=>(qls P fr xs ts.tail).map fun vs=>v::vs
def qs5(pol:Pol)(dst:Option Nat):Bool:=match dst.bind (fun d=>pol.adopt.lookup d) with
 | some _=>true
 | none=>false
noncomputable def qpP(E:Env)(R:Run)(pol:Pol)(o:Oper)(st:St)(K:V→St→Option ρ):Option ρ :=
  let P:=E.P
  let ev (x:Operand):Option V:=opd P st.fr o.type x
  match o.op with
  | .move x | .assign x=>(ev x).bind fun v=>K v st
  | .pick c a b=>(ev c).bind fun vc=>match vc.bool? with
    | some t=>(ev a).bind fun va=>(ev b).bind fun vb=>bif t then K va st else K vb st
    | none=>none
  | .binOp op xt x y _=>(opd P st.fr xt x).bind fun vx=>(opd P st.fr xt y).bind fun vy=>match vy with
    | .c (.nils _)=>(match y with
      | .const (.slice none 0 0)=>(match op,P.underlying xt with
        | .eql,some (.slice _)=>qqq vx st fun b=>K (vB b) st
        | .neq,some (.slice _)=>qqq vx st fun b=>K (vB (!b)) st
        | _,_=>none)
      | _=>none)
    | _=>match vx.bool? with
      | some _=>(match P.underlying xt with | some .bool=>qp2 op vx vy fun v=>K v st | _=>none)
      | none=>qp2 op vx vy fun v=>K v st
  | .unOp op _ x=>(ev x).bind fun vx=>qsW op vx fun v=>K v st
  | .convert src dst x=>(ev x).bind fun vx=>qhu P src dst vx st fun v=>K v st
  | .extract x i=>(ev x).bind fun vx=>match vx with
    | .tup vs=>(vs[i]?).bind fun p=>(cellsV p.1 p.2).bind fun v=>K v st
    | _=>none
  | .nilCheck x=>(ev x).bind fun vx=>match vx with
    | .c (.ip c x off)=>K (.c (.ip c x off)) st
    | .c (.box s off)=>K (.c (.box s off)) st
    | .c (.elt s i off sz)=>K (.c (.elt s i off sz)) st
    | _=>none
  | .fieldAddr s x f=>(ev x).bind fun vx=>qe2 P s vx f fun v=>K v st
  | .field s x f=>(ev x).bind fun vx=>qmt P s vx f fun v=>K v st
  | .indexAddr t x i=>match qhV P t with
    | some m=>(ev x).bind fun vx=>(ev i).bind fun vi=>qdA m vx vi st fun v=>K v st
    | none=>none
  | .index t x i=>match P.underlying t with
    | some .string=>(ev x).bind fun vx=>(ev i).bind fun vi=>qku vx vi fun v=>K v st
    | _=>none
  | .slice t x lo hi mx=>(ev x).bind fun vx=>qma P t vx (lo.map ev) (hi.map ev) (mx.map ev) st fun v=>K v st
  | .load t a=>(ev a).bind fun va=>match o.dst.bind (fun d=>pol.adopt.lookup d) with
    | none=>qpq P t va st K
    | some [some d]=>(match va with
      | .c (.elt s i (off+1) sz)=>qf4 P t s i (off+1) sz d st K
      | _=>qhN P t va d st K)
    | some [none]=>(match va with
      | .c (.elt s i (off+1) sz)=>qpK P t s i (off+1) sz st K
      | _=>none)
    | _=>none
  | .store t a x=>(ev a).bind fun va=>(opd P st.fr t x).bind fun vx=>qiq P t va vx st fun st1=>qh4 va st1 fun st2=>K (qdd va st .undef st2).1 (qdd va st .undef st2).2
  | .alloc t=>qmf P t o.dst st K
  | .box t x=>(opd P st.fr t x).bind fun vx=>if vx.ok=true then qrr vx o.dst st K else none
  | .build t parts=>qkh P t parts.toList st.fr fun v=>K v st
  | .buildSlice t len parts=>qd8 P t len parts.toList (qs5 pol o.dst) o.dst st K
  | .makeSlice t l c=>(ev l).bind fun vl=>qe4 P t l c vl o.dst st K
  | .makeFunc fn first captured=>match fn with
    | .func f=>if first.size=0 then
        (qls P st.fr captured.toList []).bind fun vs=>if vs.all V.isC=false then none else
          ((vs.flatMap V.cells).mapM (frz st.ob)).bind fun ds =>
            let r:=qdS ds
            K (.c (.d (.fn f r.t) r.x)) { st with ob:=(vs.flatMap V.cells).foldl freeze st.ob }
      else none
    | _=>none
  | .call c=>(qls P st.fr c.args.toList c.argTypes.toList).bind fun vs=>match c.callee with
    | .builtin b=>match b,vs with
      | .len,[x]=>(c.argTypes[0]?).bind fun t=>qqe P t x st fun v=>K v st
      | .append,[s,x]=>if c.argTypes.size=2∧c.argTypes.getD 1 0=c.argTypes.getD 0 0 then qg0 P (c.argTypes.getD 0 0) s x o.dst st K else none
      | .clear,[x]=>if c.argTypes.size=1 then qkq P (c.argTypes.getD 0 0) x st K else none
      | .copy,[d,s]=>if c.argTypes.size=2 then qmY P (c.argTypes.getD 0 0) d s st K else none
      | _,_=>none
    | .value f=>(ev f).bind fun vf=>match vf with
      | .c (.d t x)=>(match t,x with
        | .fn f c,x=>qjr E R pol f (vs.map V.shape++(qaJ c x).map fun _=>(false,1)) (vs.flatMap V.cells++qaJ c x) o.dst st K
        | _,_=>none)
      | _=>none
    | _=>none
  | _=>none
def qaL:Oper→Bool
 | o=>match o.op with
  | .move _ | .assign _ | .pick .. | .binOp .. | .unOp .. | .extract .. | .nilCheck _ | .fieldAddr .. | .field .. | .indexAddr .. | .index .. | .slice .. | .load .. | .build ..=>true
  | .call c=>match c.callee with | .builtin .len=>true | _=>false
  | _=>false
def qc7(ops:Array Oper)(listed:List Bool):List Nat :=
 (List.range ops.size).filter fun i =>
  !listed.getD i true&&((ops[i]?).map (·.after.toList.all fun e=>!Region.binds .any e || listed.getD e.on false)).getD false
def St.setFr(st:St)(t:Nat)(v:V):St:={ st with fr:=st.fr.set t v }
noncomputable def qiG(E:Env)(R:Run)(pol:Pol)(ops:Array Oper)(i:Nat)(st:St)(K:St→Option ρ):Option ρ :=
  match ops[i]? with
  | none=>none
  | some o=>match o.guard with
    | none=>qpP E R pol o st fun v st=>K (st.put o.dst v)
    | some (j,want)=>match (ops[j]?).bind (·.dst) with
      | none=>none
      | some t=>match st.fr[t]? with
        | some (.c .undef)=>K (st.put o.dst .undef)
        | some v=>match v.bool? with
          | some b=>bif b then(bif want then qpP E R pol o (st.setFr t (vB true)) fun v st=>K (st.put o.dst v) else K ((st.setFr t (vB true)).put o.dst .undef))
              else(bif want then K ((st.setFr t (vB false)).put o.dst .undef) else qpP E R pol o (st.setFr t (vB false)) fun v st=>K (st.put o.dst v))
          | none=>none
        | none=>none
noncomputable def qrj(E:Env)(R:Run)(pol:Pol)(ops:Array Oper):List Nat→St→(St→Option ρ)→Option ρ
 | [],st,K=>K st
 | i::rest,st,K=>qiG E R pol ops i st fun st=>qrj E R pol ops rest st K
def qcT(pol:Pol)(o:Oper):Bool:=match o.op with
 | .load _ _=>(o.dst.bind fun d=>pol.adopt.lookup d).isSome
 | _=>false
def qjs(pol:Pol)(ops:Array Oper)(i:Nat):Bool:=((ops[i]?).map fun o=>qaL o&&!qcT pol o).getD false
def qbE(P:Program)(st:St)(o:Oper):List Nat:=match o.op with
 | .load _ x=>match opd P st.fr o.type x with
  | some (.c (.box s _))=>[s]
  | some (.c (.elt s _ _ _))=>[s]
  | _=>[]
 | _=>[]
def V0.site:V0→List Nat
 | .box s _=>[s] | .arr s=>[s] | .elt s _ _ _=>[s] | .sub s _ _ _=>[s]
 | _=>[]
def qcu(P:Program)(st:St)(t:TypeId)(x:Operand):List Nat:=match opd P st.fr t x with
 | some v=>v.cells.flatMap V0.site
 | none=>[]
def qko(E:Env)(st:St)(o:Oper):List Nat:=match o.op with
 | .store t a x=>qcu E.P st o.type a++qcu E.P st t x
 | .load _ a=>qcu E.P st o.type a
 | .buildSlice _ _ parts=>parts.toList.flatMap fun p=>qcu E.P st o.type p.2
 | .call c=>match c.callee with
  | .builtin .len=>[]
  | .value f=>match opd E.P st.fr o.type f,qls E.P st.fr c.args.toList c.argTypes.toList with
   | some (.c (.d (.fn f _) _)),some vs=>(match E.sig f with
    | some sg=>qa6 sg.pm 0 (vs.flatMap V.cells)++qsg st.ob sg.pm (vs.flatMap V.cells)
    | none=>[])
   | _,_=>[]
  | _=>match qls E.P st.fr c.args.toList c.argTypes.toList with
   | some vs=>(vs.flatMap V.cells).flatMap V0.site
   | none=>[]
 | _=>[]
def qeo(ops:Array Oper)(i:Nat):Nat→List Bool
 | 0=>[]
 | j+1=>let l:=qeo ops i j
  l++[((ops[j]?).map fun o=>o.after.toList.any fun e=>Region.binds .any e&&(e.on==i || l.getD e.on false)).getD false]
def qh9(ops:Array Oper)(i j:Nat):Bool:=(qeo ops i (j+1)).getD j false
def qkZ(ops:Array Oper)(m:List Nat)(j:Nat)(loans:List (Nat×List Nat)):Bool :=
 loans.all fun p=>p.2.all (fun s=>!m.contains s) || qh9 ops p.1 j
def ql0(m:List Nat)(loans:List (Nat×List Nat)):List (Nat×List Nat) :=
 loans.filter fun p=>p.2.all (fun s=>!m.contains s)
def qhm(ops:Array Oper):Bool :=
 (List.range ops.size).all fun i=>match ops[i]? with
  | none=>true
  | some oi=>(match oi.op with | .select _ _=>false | _=>true)&&(!qaL oi || (List.range ops.size).all fun j=>i==j || match ops[j]? with
   | none=>true
   | some oj=>oi.apart ops oj || oj.after.toList.any (fun e=>Region.binds .any e&&e.on==i) || qh9 ops j i)
noncomputable def qlq(E:Env)(R:Run)(pol:Pol)(ops:Array Oper):Nat→List Bool→List (Nat×List Nat)→St→(St→Option ρ)→Option ρ
  | 0,listed,_,st,K=>match qc7 ops listed with
    | []=>K st
    | _=>none
  | n+1,listed,loans,st,K =>
    match (qc7 ops listed).find? (qjs pol ops) with
    | some i=>qiG E R pol ops i st fun st'=>qlq E R pol ops n (listed.set i true)
        (match ((ops[i]?).map (qbE E.P st)).getD [] with | []=>loans | l=>(i,l)::loans) st' K
    | none=>match qc7 ops listed with
      | []=>K st
      | i::js =>
        let go (j:Nat):Option ρ:=let m:=((ops[j]?).map (qko E st)).getD []
          bif qkZ ops m j loans then qiG E R pol ops j st fun st'=>qlq E R pol ops n (listed.set j true) (ql0 m loans) st' K else none
        js.foldl (fun acc j=>qpQ acc (go j)) (go i)
def qdy(live:List Nat):Nat→List V→List V
 | i,v::vs=>(bif live.contains i then v else .dead)::qdy live (i+1) vs
 | _,[]=>[]
def qg9(obl:List Nat):Nat→List (Option Obj)→St→St
 | i,o::os,st=>qg9 obl (i+1) os (match o with
  | some _=>bif obl.contains i then st else st.dropOb i
  | none=>st)
 | _,[],st=>st
def qpc:List (Nat×Nat×Ty×Bool)→St→Option St
 | [],st=>some st
 | (slot,site,t,dp)::r,st=>match st.fr[slot]? with
  | some (.c (.arr s))=>if s=site then qpc r st else none
  | some (.c (.nils u))=>if u=t∨t=.lab u then qpc r ((st.newOb site (.arr t [] dp false false)).setFr slot (.c (.arr site))) else none
  | _=>none
def qlK:List (Nat×Nat×Nat×Ty×Bool)→St→Option St
  | [],st=>some st
  | (bs,cell,site,t,dp)::r,st=>match qad st.ob bs with
    | some (.box cs false _)=>match cs[cell]? with
      | some (.arr s)=>if s=site then qlK r st else none
      | some (.nils u)=>if u=t∧site≠bs then
          let st':=st.newOb site (.arr t [] dp false false)
          match qad st'.ob bs with
          | some (.box cs false fx)=>qlK r (st'.setOb bs (some (.box (cs.set cell (.arr site)) false fx)))
          | _=>none
        else none
      | _=>none
    | _=>none
def qrS:List (Nat×Nat)→St→Option St
  | [],st=>some st
  | (b,j)::r,st=>if 1000000≤b then(match st.fr[b-1000000]? with
      | some (.c (.d _ _))=>qrS r st
      | some (.c c)=>(frz st.ob c).bind fun d=>qrS r (({ st with ob:=freeze st.ob c }:St).setFr (b-1000000) (.c (qb4 d)))
      | _=>none)
    else match qad st.ob b with
    | some (.box cs false fx)=>match cs[j]? with
      | some (.d _ _)=>qrS r st
      | some c=>(frz st.ob c).bind fun d =>
          if (qdJ st.ob c).contains b then none else
          qrS r { st with ob:=(freeze st.ob c).set b (some (.box (cs.set j (qb4 d)) false fx)) }
      | none=>none
    | _=>none
def Obj.undeep:Obj→Obj
 | .arr t xs d false x=>.arr t xs (d&&t.flat) false x
 | o=>o
def Mask.app(m:Mask)(st:St):Option St :=
 (qpc m.conv st).bind fun st=>(qlK m.bconv st).bind fun st=>(qrS m.tod st).map fun st =>
  let st1:St:={ fr:=qdy m.live 0 st.fr,ob:=m.undp.foldl (fun ob s=>ob.modify s (·.map Obj.undeep)) (m.frzs.foldl (fun ob s=>freeze (freeze ob (.box s 0)) (.arr s)) st.ob) }
  qg9 m.obl 0 st1.ob st1
def qb6(R:Run)(l:List (Nat×Mask))(k:Nat)(st:St)(f:St→Option Dv):Option Dv:=match l.lookup k with
 | some m=>R.w (m.app st) f
 | none=>f st
def qbz:Code→Nat
 | .region id _ _=>id
 | .seq a b=>bif qbz a==999999 then qbz b else qbz a
 | .cond (.tmp i) _ _=>1000000+i
 | .block _ b=>qbz b
 | .loop b=>qbz b
 | _=>999999
abbrev Kt:=Ex→St→Option Dv
abbrev Mk:=St→(St→Option Dv)→Option Dv
def qmb(bd:St→Kt→Option Dv)(mk:Mk):Nat→St→Kt→Option Dv
 | 0,_,_=>none
 | n+1,st,K=>bd st fun e st=>match e with
  | .normal=>mk st fun st=>qmb bd mk n st K
  | e=>K e st
def qsZ(bd:St→Kt→Option Dv)(mk:Mk)(n:Nat)(K:Kt):Kt:=fun e st=>match e with
 | .normal=>mk st fun st=>qmb bd mk n st K
 | e=>K e st
def qsp(mk:Mk)(bd:St→Kt→Option Dv)(K:Kt):Kt:=fun e st=>match e with
 | .normal=>mk st fun st=>bd st K
 | e=>K e st
def qsk(mk:Mk)(id:Nat)(K:Kt):Kt:=fun e st=>match e with
 | .exit i=>if i=id then mk st fun st=>K .normal st else K (.exit i) st
 | .normal=>mk st fun st=>K .normal st
 | .ret=>K .ret st
noncomputable def qbu(E:Env)(R:Run)(pol:Pol)(N:Nat):Code→St→Kt→Option Dv
 | .skip,st,K=>K .normal st
 | .region _ ops draw,st,K =>
  bif draw then bif qhm ops then qlq E R pol ops ops.size (List.replicate ops.size false) [] st fun st=>K .normal st else none
  else qrj E R pol ops (List.range ops.size) st fun st=>K .normal st
 | .seq a b,st,K=>qbu E R pol N a st (qsp (qb6 R pol.seqM (qbz b)) (qbu E R pol N b) K)
 | .cond c a b,st,K=>(opd E.P st.fr 0 c).bind fun v=>match v.bool? with
  | some t=>match c with
   | .tmp i=>bif t then qbu E R pol N a (st.setFr i (vB true)) K else qbu E R pol N b (st.setFr i (vB false)) K
   | _=>bif t then qbu E R pol N a st K else qbu E R pol N b st K
  | none=>none
 | .block id b,st,K=>qbu E R pol N b st (qsk (qb6 R pol.blkM id) id K)
 | .loop b,st,K=>qb6 R pol.loopM (qbz b) st fun st=>qmb (qbu E R pol N b) (qb6 R pol.loopM (qbz b)) N st K
 | .exit id,st,K=>K (.exit id) st
 | .ret,st,K=>K .ret st
 | _,_,_=>none
def qit(pm:List PM)(base i:Nat)(d:Dv)(ob:List (Option Obj)):Option (V0×List (Option Obj)) :=
 match qaz pm i with
 | .imm=>some (qb4 d,ob)
 | .iob=>match d.t,d.x with
  | .ptr c,x=>some (.box (base+i) 0,ob.set (base+i) (some (.box (qaJ c x) false true)))
  | _,_=>none
 | .iobo k=>match d.t,d.x with
  | .ptr c,x=>some (.box (base+i) 0,ob.set (base+i) (some (.bxo c x k (base+pm.length+i) false true)))
  | _,_=>none
 | m=>match d.t,d.x with
  | .sl u,xs=>some (.arr (base+i),ob.set (base+i) (some (.arr u xs (u.flat || m==.io true || m==.take true) false (m==.io true || m==.io false))))
  | _,_=>none
def qdj(pm:List PM)(base:Nat):Nat→List Dv→List (Option Obj)→Option (List V0×List (Option Obj))
 | _,[],ob=>some ([],ob)
 | i,d::ds,ob=>(qit pm base i d ob).bind fun p=>(qdj pm base (i+1) ds p.2).map fun q=>(p.1::q.1,q.2)
def qcg:List (Bool×Nat)→List V0→Option (List V)
 | [],[]=>some []
 | (false,1)::gs,c::cs=>(qcg gs cs).map (.c c::·)
 | (true,n)::gs,cs=>if n≤cs.length then(qcg gs (cs.drop n)).map (.agg (cs.take n)::·) else none
 | _,_=>none
def qb8(P:Program)(st:St):List ResultVar→List (Bool×Nat)→Option (List V0)
 | [],[]=>some []
 | .tmp t::rs,(a,n)::gs=>match st.fr[t]? with
  | some (.agg cs)=>if a=true∧cs.length=n then(qb8 P st rs gs).map (cs++·) else none
  | some (.c v)=>if a=false∧n=1 then(qb8 P st rs gs).map (v::·) else none
  | _=>none
 | .cell t ty::rs,(a,n)::gs=>match st.fr[t]? with
  | some (.c (.box s off))=>match qad st.ob s with
   | some (.box cells _ _)=>if P.cellsOf ty=n∧qdm P ty=a∧(P.underlying ty).isSome=true∧off+n≤cells.length∧(a || n==1)=true then(qb8 P st rs gs).map ((cells.drop off).take n++·) else none
   | _=>none
  | _=>none
 | _,_=>none
def qdV(ob:List (Option Obj))(m:RM)(v:V0):Option Dv:=match m with
 | .imm=>frz ob v
 | .bx=>match v with
  | .box s 0=>match qad ob s with
   | some (.box _ false false)=>frz ob (.box s 0)
   | _=>none
  | _=>none
 | m=>match v with
  | .arr s=>match qad ob s with
   | some (.arr t xs d false false)=>if m=.deep∧d=false then none else some ⟨.sl t,xs⟩
   | _=>none
  | .nils t=>some ⟨.sl t,([]:List t.T)⟩
  | .sub s 0 hi sz=>match qad ob s with
   | some (.arr t xs d false false)=>if m=.deep∧d=false then none else if sz=t.size then some ⟨.sl t,(xs.take hi).drop 0⟩ else none
   | _=>none
  | _=>none
def qft(ob:List (Option Obj)):List RM→List V0→Option (List Dv)
 | _,[]=>some []
 | ms,v::vs=>(qdV ob (ms.headD .imm) v).bind fun d=>(qft ob ms.tail vs).map fun ds=>d::ds
def qkd(m:RM)(v:V0):List Nat:=match m,v with
 | .imm,_=>[]
 | .bx,.box s _=>[s]
 | .bx,_=>[]
 | _,.arr s=>[s]
 | _,.sub s _ _ _=>[s]
 | _,_=>[]
def qb3:List RM→List V0→List Nat
 | _,[]=>[]
 | ms,v::vs=>qkd (ms.headD .imm) v++qb3 ms.tail vs
def PM.isIo:PM→Bool
 | .io _=>true
 | .iob=>true
 | .iobo _=>true
 | _=>false
def qeh(ob:List (Option Obj))(base:Nat)(m:PM)(i:Nat):Option Dv:=match m with
 | .io dp=>match qad ob (base+i) with
  | some (.arr t xs d false true)=>if dp=true∧d=false then none else some ⟨.sl t,xs⟩
  | _=>none
 | .iob=>match qad ob (base+i) with
  | some (.box _ false true)=>frz ob (.box (base+i) 0)
  | _=>none
 | .iobo k=>match qad ob (base+i) with
  | some (.bxo c x k' _ false true)=>if k'=k then some ⟨.ptr c,x⟩ else none
  | _=>none
 | _=>none
def qe3(ob:List (Option Obj))(base:Nat):List PM→Nat→Option (List Dv)
 | [],_=>some []
 | m::pm,i=>bif m.isIo then(qeh ob base m i).bind fun d=>(qe3 ob base pm (i+1)).map fun ds=>d::ds else qe3 ob base pm (i+1)
def qa0(ob:List (Option Obj)):List RM→List V0→List Nat
 | _,[]=>[]
 | ms,v::vs=>(match ms.headD .imm with | .imm=>qdJ ob v | .bx=>(qdJ ob v).tail | _=>[])++qa0 ob ms.tail vs
def qbU(ob:List (Option Obj))(base:Nat):List PM→Nat→List Nat
 | [],_=>[]
 | m::pm,i=>(match m with | .iob=>(qdJ ob (.box (base+i) 0)).tail | _=>[])++qbU ob base pm (i+1)
def qib(base:Nat):List PM→Nat→List Nat
 | [],_=>[]
 | m::pm,i=>(bif m.isIo then [base+i] else [])++qib base pm (i+1)
def qmL(E:Env)(sg:Sig)(fn:Func)(st:St):Option Dv :=
 (qb8 E.P st fn.results.toList sg.rs).bind fun cs =>
  (qft st.ob sg.own cs).bind fun ds =>
   (qe3 st.ob fn.ntmps sg.pm 0).bind fun q =>
    bif qjm (qb3 sg.own cs)&&(qa0 st.ob sg.own cs++qbU st.ob fn.ntmps sg.pm 0).all (fun s=>!(qb3 sg.own cs++qib fn.ntmps sg.pm 0).contains s) then some (qdS (ds++q)) else none
def qnt(E:Env)(sg:Sig)(fn:Func)(st:St):Option Dv:=(qnx sg.pm fn.ntmps st).bind (qmL E sg fn)
def qs4(E:Env)(sg:Sig)(fn:Func):Ex→St→Option Dv:=fun e st=>match e with
 | .exit _=>none
 | _=>qnt E sg fn st
def sub:List Nat→Code→Code
 | [],c=>c
 | 0::p,.seq a _=>sub p a
 | _::p,.seq _ b=>sub p b
 | 0::p,.cond _ a _=>sub p a
 | _::p,.cond _ _ b=>sub p b
 | _::p,.block _ b=>sub p b
 | _::p,.loop b=>sub p b
 | _,c=>c
noncomputable def qsy(E:Env)(R:Run)(sg:Sig)(pol:Pol)(fn:Func)(N:Nat)(args:List Dv):Option Dv :=
 match fn.body with
 | none=>none
 | some code=>bif sg.dr&&!pol.dr then none else
  (qdj sg.pm fn.ntmps 0 args (List.replicate pol.nob none)).bind fun p=>(qcg sg.ps p.1).bind fun fr =>
   qbu E R pol N code (qpy sg.pm fn.ntmps { fr:=fr++List.replicate (fn.ntmps-fr.length) .undef,ob:=p.2 }) (qs4 E sg fn)
def mkR(r:Nat→List Dv→Option Dv):Run:=⟨r,Option.bind⟩
theorem qqP(r:Nat→List Dv→Option Dv):(mkR r).ok:=fun _ _=>rfl
noncomputable def run(E:Env):Nat→Nat→List Dv→Option Dv
 | 0=>fun _ _=>none
 | n+1=>fun f args=>match E.prim f with
  | some p=>p (mkR (run E n)) args
  | none=>match E.fn f,E.sig f with
   | some (fn,pol),some sg=>qsy E (mkR (run E n)) sg pol fn n args
   | _,_=>none
end
end Ve
namespace Ve
open Go
abbrev qab:=Nat→Prop
def At(w:World)(b o:Nat)(us:List Value):Prop:=∀ j u,us[j]? = some u→w.cell? ⟨b,o+j,none⟩=some u
def Rp(S:qab)(w:World):(t:Ty)→t.T→List Value→Prop
  | .int k,n,vs=>vs=[.int k n]
  | .bool,b,vs=>vs=[.bool b]
  | .str,s,vs=>vs=[.string s]
  | .sl t,xs,vs=>∃ A c,vs=[.slice A xs.length c]∧xs.length≤c∧(xs=[]∨∃ b o,A=some ⟨b,o,none⟩∧S b ∧
      ∀ i x,xs[i]? = some x→∃ us,Rp S w t x us∧At w b (o+i*t.size) us)
  | .ptr c,x,vs=>∃ b o us,vs=[.pointer (some ⟨b,o,none⟩)]∧S b∧Rp S w c x us∧At w b o us
  | .fn f c,x,vs=>∃ us,vs=[.func (.func f) #[] us.toArray]∧Rp S w c x us
  | .lab t,x,vs=>vs=[x.1]∧Rp S w t x.2 vs
  | .st c,x,vs=>Rp S w c x vs
  | .nil,_,vs=>vs=[]
  | .cons a b,x,vs=>∃ us ws,vs=us++ws∧Rp S w a x.1 us∧Rp S w b x.2 ws
def DRp(w:World):(t:Ty)→t.T→List Value→qab→Prop
  | .int k,n,vs,_=>vs=[.int k n]
  | .bool,b,vs,_=>vs=[.bool b]
  | .str,s,vs,_=>vs=[.string s]
  | .sl t,xs,vs,F=>∃ A c,vs=[.slice A xs.length c]∧(xs.length≤c∧c≤maxLen)∧(c=0∨∃ b arr e,∃ G:Nat→qab,A=some ⟨b,0,none⟩∧F b ∧
      w.heap[b]? = some (.cells arr e (0,0))∧arr.size=c*t.size∧(∀ i b',G i b'→F b'∧b'≠b)∧(∀ i j b',i≠j→G i b'→¬ G j b') ∧
      ∀ i x,xs[i]? = some x→∃ us,DRp w t x us (G i)∧∀ j u,us[j]? = some u→arr[i*t.size+j]? = some u)
  | .ptr _,_,_,_=>False
  | .fn _ _,_,_,_=>False
  | .lab _,_,_,_=>False
  | .st c,x,vs,F=>DRp w c x vs F
  | .nil,_,vs,_=>vs=[]
  | .cons a b,x,vs,F=>∃ us ws,∃ F1 F2:qab,vs=us++ws∧(∀ b,F1 b→F b)∧(∀ b,F2 b→F b)∧(∀ b,F1 b→¬ F2 b)∧DRp w a x.1 us F1∧DRp w b x.2 ws F2
def El(S:qab)(w:World)(d:Bool)(t:Ty)(x:t.T)(us:List Value)(G:qab):Prop:=match d with
 | true=>DRp w t x us G
 | false=>Rp S w t x us
def qar(S:qab)(w:World)(d:Bool)(t:Ty)(xs:List t.T)(v:Value)(F:qab):Prop :=
  ∃ A c,v=.slice A xs.length c∧(xs.length≤c∧c≤maxLen)∧(c=0∨∃ b arr e,∃ G:Nat→qab,A=some ⟨b,0,none⟩∧F b ∧
      w.heap[b]? = some (.cells arr e (0,0))∧arr.size=c*t.size∧(∀ i b',G i b'→F b'∧b'≠b)∧(∀ i j b',i≠j→G i b'→¬ G j b') ∧
      ∀ i x,xs[i]? = some x→∃ us,El S w d t x us (G i)∧∀ j u,us[j]? = some u→arr[i*t.size+j]? = some u)
theorem qjA{w:World}{t:Ty}{xs:List t.T}{v:Value}{F S:qab}:DRp w (.sl t) xs [v] F↔qar S w true t xs v F:=by
 unfold qar El
 simp only[DRp,List.cons.injEq,and_true]
theorem qnF{w w':World}{b:Nat}(h:w'.heap[b]? = w.heap[b]?)(o:Nat):w'.cell? ⟨b,o,none⟩=w.cell? ⟨b,o,none⟩:=by
 simp only[World.cell?,h]
theorem At.congr{w w':World}{b o:Nat}{us:List Value}(hA:At w b o us)(h:w'.heap[b]? = w.heap[b]?):At w' b o us :=
 fun j u hu=>by rw[qnF h];exact hA j u hu
theorem Rp.mono{S S':qab}{w w':World}(hS:∀ b,S b→S' b)(hw:∀ b,S b→w'.heap[b]? = w.heap[b]?) :
    ∀(t:Ty) (x:t.T) (us:List Value),Rp S w t x us→Rp S' w' t x us
  | .int _,_,_,h=>h
  | .bool,_,_,h=>h
  | .str,_,_,h=>h
  | .sl t,xs,vs,⟨A,c,hv,hc,h⟩=>⟨A,c,hv,hc,h.imp id fun⟨b,o,hA,hb,he⟩=>⟨b,o,hA,hS b hb,fun i x hx =>
      let ⟨us,h1,h2⟩:=he i x hx;⟨us,Rp.mono hS hw t x us h1,h2.congr (hw b hb)⟩⟩⟩
  | .ptr c,x,vs,⟨b,o,us,hv,hb,h1,h2⟩=>⟨b,o,us,hv,hS b hb,Rp.mono hS hw c x us h1,h2.congr (hw b hb)⟩
  | .fn f c,x,vs,⟨us,hv,h⟩=>⟨us,hv,Rp.mono hS hw c x us h⟩
  | .lab t,x,vs,⟨hv,h⟩=>⟨hv,Rp.mono hS hw t x.2 vs h⟩
  | .st c,x,vs,h=>Rp.mono hS hw c x vs h
  | .nil,_,_,h=>h
  | .cons a b,x,vs,⟨us,ws,hv,h1,h2⟩=>⟨us,ws,hv,Rp.mono hS hw a x.1 us h1,Rp.mono hS hw b x.2 ws h2⟩
theorem DRp.mono{w w':World}:∀(t:Ty) (x:t.T) (us:List Value) {F F':qab} (_:∀ b,F b→F' b) (_:∀ b,F b→w'.heap[b]? = w.heap[b]?),
    DRp w t x us F→DRp w' t x us F'
  | .int _,_,_,_,_,_,_,h=>h
  | .bool,_,_,_,_,_,_,h=>h
  | .str,_,_,_,_,_,_,h=>h
  | .sl t,xs,vs,F,F',hF,hw,⟨A,c,hv,hc,h⟩=>⟨A,c,hv,hc,h.imp id fun⟨b,arr,e,G,hA,hb,hh,hs,hG,hd,he⟩ =>
      ⟨b,arr,e,G,hA,hF b hb,by rw[hw b hb];exact hh,hs,fun i b' hb'=>⟨hF b' (hG i b' hb').1,(hG i b' hb').2⟩,hd,fun i x hx =>
        let ⟨us,h1,h2⟩:=he i x hx;⟨us,DRp.mono t x us (fun _ h=>h) (fun b' hb'=>hw b' (hG i b' hb').1) h1,h2⟩⟩⟩
  | .st c,x,vs,_,_,hF,hw,h=>DRp.mono c x vs hF hw h
  | .nil,_,_,_,_,_,_,h=>h
  | .cons a b,x,vs,F,F',hF,hw,⟨us,ws,F1,F2,hv,h1,h2,hd,ha,hb⟩ =>
      ⟨us,ws,F1,F2,hv,fun b h=>hF b (h1 b h),fun b h=>hF b (h2 b h),hd,DRp.mono a x.1 us (fun _ h=>h) (fun b h=>hw b (h1 b h)) ha,
        DRp.mono b x.2 ws (fun _ h=>h) (fun b h=>hw b (h2 b h)) hb⟩
theorem Rp.len{S:qab}{w:World}:∀(t:Ty) (x:t.T) (us:List Value),Rp S w t x us→us.length=t.size
 | .int _,_,_,h=>by cases h;rfl
 | .bool,_,_,h=>by cases h;rfl
 | .str,_,_,h=>by cases h;rfl
 | .sl _,_,_,⟨_,_,hv,_⟩=>by subst hv;rfl
 | .ptr _,_,_,⟨_,_,_,hv,_⟩=>by subst hv;rfl
 | .fn _ _,_,_,⟨_,hv,_⟩=>by subst hv;rfl
 | .lab _,_,_,⟨hv,_⟩=>by subst hv;rfl
 | .st c,x,vs,h=>Rp.len c x vs h
 | .nil,_,_,h=>by cases h;rfl
 | .cons a b,x,vs,⟨us,ws,hv,h1,h2⟩=>by subst hv;simp[Ty.size,Rp.len a x.1 us h1,Rp.len b x.2 ws h2]
theorem DRp.len{w:World}:∀(t:Ty) (x:t.T) (us:List Value) {F:qab},DRp w t x us F→us.length=t.size
 | .int _,_,_,_,h=>by cases h;rfl
 | .bool,_,_,_,h=>by cases h;rfl
 | .str,_,_,_,h=>by cases h;rfl
 | .sl _,_,_,_,⟨_,_,hv,_⟩=>by subst hv;rfl
 | .st c,x,vs,_,h=>DRp.len c x vs h
 | .nil,_,_,_,h=>by cases h;rfl
 | .cons a b,x,vs,_,⟨us,ws,_,_,hv,_,_,_,h1,h2⟩=>by subst hv;simp[Ty.size,DRp.len a x.1 us h1,DRp.len b x.2 ws h2]
theorem El.len{S:qab}{w:World}{d:Bool}{t:Ty}{x:t.T}{us:List Value}{G:qab}(h:El S w d t x us G):us.length=t.size:=by
 cases d
 ·exact Rp.len t x us h
 ·exact DRp.len t x us h
theorem qc0{w:World}{b:Nat}{arr:Array Value}{e:TypeId}{fz:Nat×Nat}(hh:w.heap[b]? = some (.cells arr e fz)){o:Nat}{us:List Value}
  (h:∀ j u,us[j]? = some u→arr[o+j]? = some u):At w b o us:=fun j u hu=>by
 simp only[World.cell?,hh];simpa using h j u hu
theorem DRp.freeze{S:qab}{w:World}:∀(t:Ty) (x:t.T) (us:List Value) {F:qab} (_:∀ b,F b→S b),DRp w t x us F→Rp S w t x us
  | .int _,_,_,_,_,h=>h
  | .bool,_,_,_,_,h=>h
  | .str,_,_,_,_,h=>h
  | .sl t,xs,vs,F,hF,⟨A,c,hv,hc,h⟩=>⟨A,c,hv,hc.1,by
      rcases h with h | ⟨b,arr,e,G,hA,hb,hh,hs,hG,hd,he⟩
      · left
        have:xs.length=0:=by omega
        exact List.length_eq_zero_iff.1 this
      · right
        refine⟨b,0,hA,hF b hb,fun i x hx=>?_⟩
        obtain⟨us,h1,h2⟩:=he i x hx
        exact⟨us,DRp.freeze t x us (fun b' hb'=>hF b' (hG i b' hb').1) h1,by rw[Nat.zero_add];exact qc0 hh h2⟩⟩
  | .st c,x,vs,_,hF,h=>DRp.freeze c x vs hF h
  | .nil,_,_,_,_,h=>h
  | .cons a b,x,vs,F,hF,⟨us,ws,F1,F2,hv,h1,h2,hd,ha,hb⟩ =>
      ⟨us,ws,hv,DRp.freeze a x.1 us (fun b h=>hF b (h1 b h)) ha,DRp.freeze b x.2 ws (fun b h=>hF b (h2 b h)) hb⟩
theorem El.freeze{S:qab}{w:World}{d:Bool}{t:Ty}{x:t.T}{us:List Value}{G:qab}(hG:∀ b,G b→S b)(h:El S w d t x us G):Rp S w t x us:=by
 cases d
 ·exact h
 ·exact DRp.freeze t x us hG h
theorem Rp.flat{S S':qab}{w w':World}:∀(t:Ty) (x:t.T) (us:List Value),t.flat=true→Rp S w t x us→Rp S' w' t x us
  | .int _,_,_,_,h=>h
  | .bool,_,_,_,h=>h
  | .str,_,_,_,h=>h
  | .sl _,_,_,hf,_=>by simp[Ty.flat] at hf
  | .ptr _,_,_,hf,_=>by simp[Ty.flat] at hf
  | .fn _ _,_,_,hf,_=>by simp[Ty.flat] at hf
  | .lab _,_,_,hf,_=>by simp[Ty.flat] at hf
  | .st c,x,vs,hf,h=>Rp.flat c x vs hf h
  | .nil,_,_,_,h=>h
  | .cons a b,x,vs,hf,⟨us,ws,hv,h1,h2⟩=>by
      have hf':a.flat=true∧b.flat=true:=by simpa [Ty.flat] using hf
      exact⟨us,ws,hv,Rp.flat a x.1 us hf'.1 h1,Rp.flat b x.2 ws hf'.2 h2⟩
theorem Rp.deep{S:qab}{w w':World}:∀(t:Ty) (x:t.T) (us:List Value) (F:qab),t.flat=true→Rp S w t x us→DRp w' t x us F
  | .int _,_,_,_,_,h=>h
  | .bool,_,_,_,_,h=>h
  | .str,_,_,_,_,h=>h
  | .sl _,_,_,_,hf,_=>by simp[Ty.flat] at hf
  | .ptr _,_,_,_,hf,_=>by simp[Ty.flat] at hf
  | .fn _ _,_,_,_,hf,_=>by simp[Ty.flat] at hf
  | .lab _,_,_,_,hf,_=>by simp[Ty.flat] at hf
  | .st c,x,vs,F,hf,h=>Rp.deep c x vs F hf h
  | .nil,_,_,_,_,h=>h
  | .cons a b,x,vs,F,hf,⟨us,ws,hv,h1,h2⟩=>by
      have hf':a.flat=true∧b.flat=true:=by simpa [Ty.flat] using hf
      exact⟨us,ws,fun _=>False,fun _=>False,hv,fun _ h=>h.elim,fun _ h=>h.elim,fun _ h=>h.elim,Rp.deep a x.1 us _ hf'.1 h1,Rp.deep b x.2 ws _ hf'.2 h2⟩
theorem DRp.flat{S:qab}{w w':World}(t:Ty)(x:t.T)(us:List Value){F:qab}(hf:t.flat=true)(h:DRp w t x us F):Rp S w' t x us :=
 Rp.flat t x us hf (DRp.freeze (S:=fun _=>True) t x us (fun _ _=>trivial) h)
theorem El.flat{S S':qab}{w w':World}{d d':Bool}{t:Ty}{x:t.T}{us:List Value}{G G':qab}(hf:t.flat=true)(h:El S w d t x us G):El S' w' d' t x us G':=by
 have h1:Rp S' w' t x us:=by
  cases d
  ·exact Rp.flat t x us hf h
  ·exact DRp.flat t x us hf h
 cases d'
 ·exact h1
 ·exact Rp.deep t x us G' hf h1
theorem El.mono{S S':qab}{w w':World}{d:Bool}{t:Ty}{x:t.T}{us:List Value}{G G':qab}(hS:∀ b,S b→S' b)(hwS:∀ b,S b→w'.heap[b]? = w.heap[b]?)
  (hG:∀ b,G b→G' b) (hwG:∀ b,G b→w'.heap[b]? = w.heap[b]?) (h:El S w d t x us G):El S' w' d t x us G':=by
 cases d
 ·exact Rp.mono hS hwS t x us h
 ·exact DRp.mono t x us hG hwG h
theorem qar.mono{S S':qab}{w w':World}{d:Bool}{t:Ty}{xs:List t.T}{v:Value}{F F':qab}(hS:∀ b,S b→S' b)(hwS:∀ b,S b→w'.heap[b]? = w.heap[b]?)
  (hF:∀ b,F b→F' b) (hwF:∀ b,F b→w'.heap[b]? = w.heap[b]?) (h:qar S w d t xs v F):qar S' w' d t xs v F':=by
 obtain⟨A,c,hv,hc,h⟩:=h
 refine⟨A,c,hv,hc,h.imp id fun⟨b,arr,e,G,hA,hb,hh,hs,hG,hd,he⟩=>⟨b,arr,e,G,hA,hF b hb,by rw[hwF b hb];exact hh,hs,fun i b' hb'=>⟨hF b' (hG i b' hb').1,(hG i b' hb').2⟩,hd,fun i x hx=>?_⟩⟩
 obtain⟨us,h1,h2⟩:=he i x hx
 exact⟨us,h1.mono hS hwS (fun _ h=>h) fun b' hb'=>hwF b' (hG i b' hb').1,h2⟩
theorem qar.freeze{S:qab}{w:World}{d:Bool}{t:Ty}{xs:List t.T}{v:Value}{F:qab}(hF:∀ b,F b→S b)(h:qar S w d t xs v F):Rp S w (.sl t) xs [v]:=by
 obtain⟨A,c,hv,hc,h⟩:=h
 subst hv
 refine⟨A,c,rfl,hc.1,?_⟩
 rcases h with h | ⟨b,arr,e,G,hA,hb,hh,hs,hG,hd,he⟩
 ·left;exact List.length_eq_zero_iff.1 (by omega)
 ·right
  refine⟨b,0,hA,hF b hb,fun i x hx=>?_⟩
  obtain⟨us,h1,h2⟩:=he i x hx
  exact⟨us,h1.freeze fun b' hb'=>hF b' (hG i b' hb').1,by rw[Nat.zero_add];exact qc0 hh h2⟩
theorem qar.weaken{S:qab}{w:World}{d:Bool}{t:Ty}{xs:List t.T}{v:Value}{F:qab}(h:qar S w d t xs v F) :
  ∃ F':qab,(∀ b,F' b→F b)∧∀ S':qab,(∀ b,S b→S' b)→(∀ b,F b→¬ F' b→S' b)→qar S' w false t xs v F':=by
 obtain⟨A,c,hv,hc,h⟩:=h
 rcases h with h | ⟨b,arr,e,G,hA,hb,hh,hs,hG,hd,he⟩
 ·exact⟨fun _=>False,fun _ h=>h.elim,fun _ _ _=>⟨A,c,hv,hc,.inl h⟩⟩
 ·refine⟨fun b'=>b'=b,fun b' h=>h ▸ hb,fun S' hS hS'=>⟨A,c,hv,hc,.inr ⟨b,arr,e,fun _ _=>False,hA,rfl,hh,hs,fun _ _ h=>h.elim,fun _ _ _ _ h=>h.elim,fun i x hx=>?_⟩⟩⟩
  obtain⟨us,h1,h2⟩:=he i x hx
  refine⟨us,?_,h2⟩
  have:El S' w d t x us (G i):=h1.mono hS (fun _ _=>rfl) (fun _ h=>h) fun _ _=>rfl
  exact this.freeze fun b' hb'=>hS' b' (hG i b' hb').1 (hG i b' hb').2
theorem qar.flat{S S':qab}{w:World}{d d':Bool}{t:Ty}{xs:List t.T}{v:Value}{F:qab}(hf:t.flat=true)(h:qar S w d t xs v F):qar S' w d' t xs v F:=by
 obtain⟨A,c,hv,hc,h⟩:=h
 refine⟨A,c,hv,hc,h.imp id fun⟨b,arr,e,G,hA,hb,hh,hs,hG,hd,he⟩=>⟨b,arr,e,G,hA,hb,hh,hs,hG,hd,fun i x hx=>?_⟩⟩
 obtain⟨us,h1,h2⟩:=he i x hx
 exact⟨us,h1.flat hf,h2⟩
end Ve
namespace Ve
open Go
def V0R(S:qab)(w:World)(g:Nat→Value):V0→Value→Prop
 | .d t x,v=>Rp S w t x [v]
 | .ip c x off,v=>∃ b o us,v=.pointer (some ⟨b,o+off,none⟩)∧S b∧Rp S w c x us∧At w b o us
 | .nils _,v=>∃ A,v=.slice A 0 0
 | .undef,v=>v=Go.undef
 | .dead,_=>True
 | .box s off,v=>∃ b,g s=.pointer (some ⟨b,0,none⟩)∧v=.pointer (some ⟨b,off,none⟩)
 | .arr s,v=>v=g s∧∃ A n c,v=.slice A n c
 | .elt s i off sz,v=>∃ b n c,g s=.slice (some ⟨b,0,none⟩) n c∧i<n∧v=.pointer (some ⟨b,i*sz+off,none⟩)
 | .ln n,v=>∃ A c,v=.slice A n c
 | .sub s lo hi sz,v=>∃ A n c A',g s=.slice A n c∧v=.slice A' (hi-lo) (c-lo)∧lo≤hi∧hi≤n∧(lo<c→∃ b,A=some ⟨b,0,none⟩∧A'=some ⟨b,lo*sz,none⟩)
def Cs(S:qab)(w:World)(g:Nat→Value):List V0→List Value→Prop
 | [],us=>us=[]
 | c::cs,us=>∃ u us',us=u::us'∧V0R S w g c u∧Cs S w g cs us'
def GrR(S:qab)(w:World)(g:Nat→Value)(a:Bool)(cs:List V0)(v:Value):Prop:=match a with
 | true=>∃ us:List Value,v=.agg us.toArray∧Cs S w g cs us
 | false=>Cs S w g cs [v]
def ql3(S:qab)(w:World)(g:Nat→Value):List (Bool×List V0)→List Value→Prop
 | [],us=>us=[]
 | p::ps,us=>∃ u us',us=u::us'∧GrR S w g p.1 p.2 u∧ql3 S w g ps us'
def VR(S:qab)(w:World)(g:Nat→Value):V→Value→Prop
 | .c v0,v=>V0R S w g v0 v
 | .agg cs,v=>∃ us:List Value,v=.agg us.toArray∧Cs S w g cs us
 | .tup vs,v=>∃ us:List Value,v=.tuple us.toArray∧ql3 S w g vs us
def qff(w:World)(t:Ty)(xs:List t.T)(i:Nat)(v:Value)(F:qab):Prop :=
  ∃ b c arr e,∃ G:Nat→qab,v=.slice (some ⟨b,0,none⟩) xs.length c∧(xs.length≤c∧c≤maxLen)∧F b ∧
      w.heap[b]? = some (.cells arr e (0,0))∧arr.size=c*t.size∧(∀ j b',G j b'→F b'∧b'≠b)∧(∀ j k b',j≠k→G j b'→¬ G k b') ∧
      ∀ j x,j≠i→xs[j]? = some x→∃ us,DRp w t x us (G j)∧∀ k u,us[k]? = some u→arr[j*t.size+k]? = some u
theorem qff.mono{w w':World}{t:Ty}{xs:List t.T}{i:Nat}{v:Value}{F F':qab}(hF:∀ b,F b→F' b)(hw:∀ b,F b→w'.heap[b]? = w.heap[b]?)(h:qff w t xs i v F):qff w' t xs i v F':=by
 obtain⟨b,c,arr,e,G,h1,h2,h3,h4,h5,h6,h7,h8⟩:=h
 exact⟨b,c,arr,e,G,h1,h2,hF b h3,by rw[hw b h3];exact h4,h5,fun j b' hb=>⟨hF b' (h6 j b' hb).1,(h6 j b' hb).2⟩,h7,fun j x hj hx =>
  let ⟨us,k1,k2⟩:=h8 j x hj hx
  ⟨us,DRp.mono t x us (fun _ h=>h) (fun b' hb'=>hw b' (h6 j b' hb').1) k1,k2⟩⟩
def qio(w:World)(t:Ty)(y:t.T)(ws:List Value)(G:qab):Prop :=
 ∀(w':World) (v:Ty) (ys:List v.T) (y':t.T) (u:Value) (N:qab),(∀ b,G b→w'.heap[b]? = w.heap[b]?)→(∀ b,N b→¬ G b)→qcQ ⟨.sl v,ys⟩ t y=some y'→DRp w' (.sl v) ys [u] N →
  DRp w' t y' (ws++[u]) (fun b=>G b∨N b)
theorem qio.mono{w w':World}{t:Ty}{y:t.T}{ws:List Value}{G:qab}(hw:∀ b,G b→w'.heap[b]? = w.heap[b]?)(h:qio w t y ws G):qio w' t y ws G :=
 fun w2 v ys y' u N h1 h2 h3 h4=>h w2 v ys y' u N (fun b hb=>(h1 b hb).trans (hw b hb)) h2 h3 h4
def qfJ(w:World)(t:Ty)(xs:List t.T)(i:Nat)(v u:Value)(F:qab):Prop :=
  ∃ b c arr e,∃ G:Nat→qab,v=.slice (some ⟨b,0,none⟩) xs.length c∧(xs.length≤c∧c≤maxLen)∧F b ∧
      w.heap[b]? = some (.cells arr e (0,0))∧arr.size=c*t.size∧(∀ j b',G j b'→F b'∧b'≠b)∧(∀ j k b',j≠k→G j b'→¬ G k b') ∧
      (∀ j x,j≠i→xs[j]? = some x→∃ us,DRp w t x us (G j)∧∀ k u,us[k]? = some u→arr[j*t.size+k]? = some u) ∧
      ∃ y ws,xs[i]? = some y∧(∀ k u',(ws++[u])[k]? = some u'→arr[i*t.size+k]? = some u')∧qio w t y ws (G i)
theorem qfJ.hol{w:World}{t:Ty}{xs:List t.T}{i:Nat}{v u:Value}{F:qab}(h:qfJ w t xs i v u F):qff w t xs i v F:=by
 obtain⟨b,c,arr,e,G,h1,h2,h3,h4,h5,h6,h7,h8,_⟩:=h
 exact⟨b,c,arr,e,G,h1,h2,h3,h4,h5,h6,h7,h8⟩
theorem qfJ.mono{w w':World}{t:Ty}{xs:List t.T}{i:Nat}{v u:Value}{F F':qab}(hF:∀ b,F b→F' b)(hw:∀ b,F b→w'.heap[b]? = w.heap[b]?)(h:qfJ w t xs i v u F):qfJ w' t xs i v u F':=by
 obtain⟨b,c,arr,e,G,h1,h2,h3,h4,h5,h6,h7,h8,y,ws,h9,h10,h11⟩:=h
 exact⟨b,c,arr,e,G,h1,h2,hF b h3,by rw[hw b h3];exact h4,h5,fun j b' hb=>⟨hF b' (h6 j b' hb).1,(h6 j b' hb).2⟩,h7,fun j x hj hx =>
  let ⟨us,k1,k2⟩:=h8 j x hj hx
  ⟨us,DRp.mono t x us (fun _ h=>h) (fun b' hb'=>hw b' (h6 j b' hb').1) k1,k2⟩,y,ws,h9,h10,h11.mono fun b' hb'=>hw b' (h6 i b' hb').1⟩
def RpK(S:qab)(w:World)(G:qab):Nat→(c:Ty)→c.T→List Value→Prop
 | 0,.cons (.sl u) b,x,us=>∃ v us',us=v::us'∧qar S w false u x.1 v G∧Rp S w b x.2 us'
 | k+1,.cons a b,x,us=>a.sc=true∧∃ v us',us=v::us'∧Rp S w a x.1 [v]∧RpK S w G k b x.2 us'
 | _,_,_,_=>False
theorem RpK.mono{S S':qab}{w w':World}{G G':qab}(hS:∀ b,S b→S' b)(hw:∀ b,S b→w'.heap[b]? = w.heap[b]?)(hG:∀ b,G b→G' b)(hwG:∀ b,G b→w'.heap[b]? = w.heap[b]?):∀ {k:Nat} {c:Ty} {x:c.T} {us:List Value},RpK S w G k c x us→RpK S' w' G' k c x us
 | 0,.cons (.sl u) b,x,us,⟨v,us',h1,h2,h3⟩=>⟨v,us',h1,qar.mono hS hw hG hwG h2,Rp.mono hS hw b x.2 us' h3⟩
 | k+1,.cons a b,x,us,⟨h0,v,us',h1,h2,h3⟩=>⟨h0,v,us',h1,Rp.mono hS hw a x.1 _ h2,RpK.mono hS hw hG hwG h3⟩
def qnV(S:qab)(w:World)(c:Ty)(x:c.T)(k:Nat)(v:Value)(F:qab):Prop :=
 ∃ b arr e,∃ G:qab,v=.pointer (some ⟨b,0,none⟩)∧F b∧w.heap[b]? = some (.cells arr e (0,0))∧(∀ b',G b'→F b'∧b'≠b)∧RpK S w G k c x arr.toList
theorem qnV.mono{S S':qab}{w w':World}{F F':qab}{c:Ty}{x:c.T}{k:Nat}{v:Value}(hS:∀ b,S b→S' b)(hw:∀ b,S b→w'.heap[b]? = w.heap[b]?)(hF:∀ b,F b→F' b)(hwF:∀ b,F b→w'.heap[b]? = w.heap[b]?)(h:qnV S w c x k v F):qnV S' w' c x k v F':=by
 obtain⟨b,arr,e,G,h1,h2,h3,h4,h5⟩:=h
 exact⟨b,arr,e,G,h1,hF b h2,by rw[hwF b h2];exact h3,fun b' hb=>⟨hF b' (h4 b' hb).1,(h4 b' hb).2⟩,h5.mono hS hw (fun _ h=>h) fun b' hb=>hwF b' (h4 b' hb).1⟩
def ObR(S:qab)(w:World)(g:Nat→Value)(F:Nat→qab)(s:Nat):Obj→Prop
 | .box cs _ _=>∃ b arr e,g s=.pointer (some ⟨b,0,none⟩)∧F s b∧w.heap[b]? = some (.cells arr e (0,0))∧Cs S w g cs arr.toList
 | .arr t xs d _ _=>qar S w d t xs (g s) (F s)
 | .hol t xs i _=>qff w t xs i (g s) (F s)
 | .hlp t xs i d _=>qfJ w t xs i (g s) (g d) (F s)
 | .bxo c x k _ _ _=>qnV S w c x k (g s) (F s)
def Obj.frozen:Obj→Bool
 | .box _ f _=>f
 | .arr _ _ _ f _=>f
 | .hol _ _ _ f=>f
 | .hlp _ _ _ _ f=>f
 | .bxo _ _ _ _ f _=>f
def Obj.fixed:Obj→Bool
 | .box _ _ f=>f
 | .arr _ _ _ _ f=>f
 | .hol ..=>false
 | .hlp ..=>false
 | .bxo _ _ _ _ _ f=>f
def Kin(w w':World):Prop:=w'.os=w.os∧w'.tape=w.tape∧w'.output=w.output∧w.drawn≤w'.drawn
theorem Kin.refl(w:World):Kin w w:=⟨rfl,rfl,rfl,Nat.le_refl _⟩
def qmJ(d:Bool)(w w':World):Prop:=w'.os=w.os∧w'.tape=w.tape∧w'.output=w.output∧(d=true→w.drawn≤w'.drawn)
theorem Kin.d{d:Bool}{w w':World}(h:Kin w w'):qmJ d w w':=⟨h.1,h.2.1,h.2.2.1,fun _=>h.2.2.2⟩
theorem qmJ.s{w w':World}(h:qmJ true w w'):Kin w w':=⟨h.1,h.2.1,h.2.2.1,h.2.2.2 rfl⟩
theorem qmJ.trans{d:Bool}{a b c:World}(h:qmJ d a b)(k:qmJ d b c):qmJ d a c:=⟨k.1.trans h.1,k.2.1.trans h.2.1,k.2.2.1.trans h.2.2.1,fun e=>Nat.le_trans (h.2.2.2 e) (k.2.2.2 e)⟩
theorem qmJ.weak{d e:Bool}{w w':World}(h:qmJ d w w')(hd:e=true→d=true):qmJ e w w':=⟨h.1,h.2.1,h.2.2.1,fun x=>h.2.2.2 (hd x)⟩
theorem Kin.trans{a b c:World}(h:Kin a b)(k:Kin b c):Kin a c:=⟨k.1.trans h.1,k.2.1.trans h.2.1,k.2.2.1.trans h.2.2.1,Nat.le_trans h.2.2.2 k.2.2.2⟩
structure Ctx where
 O:qab
 S0:qab
 w0:World
 g0:Nat→Value
 dr:Bool
 base:∀ b,w0.heap.size≤b→O b
structure Sim (C:Ctx) (S:qab) (g:Nat→Value) (F:Nat→qab) (st:St) (tm:Array Value) (w:World):Prop where
 size:tm.size=st.fr.length
 fr:∀ i v,st.fr[i]? = some v→VR S w g v (tm.getD i Go.undef)
 ob:∀ s o,qad st.ob s=some o→ObR S w g F s o
 prv:∀ s o,qad st.ob s=some o→o.frozen=false→∀ b,F s b→¬ S b∧C.O b
 frz:∀ s o,qad st.ob s=some o→o.frozen=true→∀ b,F s b→S b
 dis:∀ s s' o o',s≠s'→qad st.ob s=some o→qad st.ob s'=some o'→o.frozen=false→o'.frozen=false→∀ b,F s b→¬ F s' b
 szF:∀ s o,qad st.ob s=some o→∀ b,F s b→b<w.heap.size
 szS:∀ b,S b→b<w.heap.size
 S0:∀ b,C.S0 b→S b
 SO:∀ b,S b→C.S0 b∨C.O b
 keep:∀ b,b<C.w0.heap.size→¬ C.O b→w.heap[b]? = C.w0.heap[b]?
 mono:C.w0.heap.size≤w.heap.size
 kin:qmJ C.dr C.w0 w
 fx:∀ s o,qad st.ob s=some o→o.fixed=true→g s=C.g0 s
section
variable {S S':qab} {w w':World} {g g':Nat→Value}
theorem V0R.mono(hS:∀ b,S b→S' b)(hw:∀ b,S b→w'.heap[b]? = w.heap[b]?):∀ {v:V0} {u:Value},V0R S w g v u→V0R S' w' g v u
 | .d t x,_,h=>Rp.mono hS hw t x _ h
 | .ip c x off,_,⟨b,o,us,hv,hb,h1,h2⟩=>⟨b,o,us,hv,hS b hb,Rp.mono hS hw c x us h1,h2.congr (hw b hb)⟩
 | .nils _,_,h=>h
 | .undef,_,h=>h
 | .dead,_,h=>h
 | .box _ _,_,h=>h
 | .arr _,_,h=>h
 | .elt _ _ _ _,_,h=>h
 | .sub _ _ _ _,_,h=>h
 | .ln _,_,h=>h
theorem Cs.imp{p:V0→Value→Prop}(h:∀ v u,V0R S w g v u→V0R S' w' g' v u):∀ {cs:List V0} {us:List Value},Cs S w g cs us→Cs S' w' g' cs us
 | [],_,hh=>hh
 | _::_,_,⟨u,us',he,h1,h2⟩=>⟨u,us',he,h _ _ h1,Cs.imp (p:=p) h h2⟩
theorem Cs.map{f:V0→V0}(h:∀ v u,V0R S w g v u→V0R S' w' g' (f v) u):∀ {cs:List V0} {us:List Value},Cs S w g cs us→Cs S' w' g' (cs.map f) us
 | [],_,hh=>hh
 | _::_,_,⟨u,us',he,h1,h2⟩=>⟨u,us',he,h _ _ h1,Cs.map h h2⟩
theorem Cs.len:∀ {cs:List V0} {us:List Value},Cs S w g cs us→us.length=cs.length
 | [],_,h=>by cases h;rfl
 | _::_,_,⟨u,us',he,_,h2⟩=>by subst he;simp[Cs.len h2]
theorem Cs.get:∀ {cs:List V0} {us:List Value},Cs S w g cs us→∀ {i:Nat} {c:V0},cs[i]? = some c→∃ u,us[i]? = some u∧V0R S w g c u
 | [],_,_,i,c,hc=>by simp at hc
 | _::_,_,⟨u,us',he,h1,h2⟩,0,c,hc=>by subst he;simp at hc;subst hc;exact⟨u,rfl,h1⟩
 | _::_,_,⟨u,us',he,h1,h2⟩,i+1,c,hc=>by subst he;simp at hc;simpa using Cs.get h2 hc
theorem Cs.append:∀ {cs:List V0} {us:List Value} {ds:List V0} {vs:List Value},Cs S w g cs us→Cs S w g ds vs→Cs S w g (cs++ds) (us++vs)
 | [],_,_,_,h,h'=>by cases h;exact h'
 | _::_,_,_,_,⟨u,us',he,h1,h2⟩,h'=>by subst he;exact⟨u,us'++_,rfl,h1,Cs.append h2 h'⟩
theorem Cs.split:∀ {cs ds:List V0} {us:List Value},Cs S w g (cs++ds) us→∃ u1 u2,us=u1++u2∧Cs S w g cs u1∧Cs S w g ds u2
  | [],_,us,h=>⟨[],us,rfl,rfl,h⟩
  | _::_,_,_,⟨u,us',he,h1,h2⟩=>by
      obtain⟨u1,u2,he2,ha,hb⟩:=Cs.split h2
      subst he;subst he2
      exact⟨u::u1,u2,rfl,⟨u,u1,rfl,h1,ha⟩,hb⟩
theorem Cs.take{cs:List V0}{us:List Value}(h:Cs S w g cs us)(n:Nat):Cs S w g (cs.take n) (us.take n):=by
 induction n generalizing cs us with
 | zero=>simp[Cs]
 | succ n ih =>
  cases cs with
  | nil=>cases h;simp[Cs]
  | cons c cs=>obtain⟨u,us',he,h1,h2⟩:=h;subst he;exact⟨u,us'.take n,rfl,h1,ih h2⟩
theorem Cs.drop{cs:List V0}{us:List Value}(h:Cs S w g cs us)(n:Nat):Cs S w g (cs.drop n) (us.drop n):=by
 induction n generalizing cs us with
 | zero=>simpa using h
 | succ n ih =>
  cases cs with
  | nil=>cases h;simp[Cs]
  | cons c cs=>obtain⟨u,us',he,h1,h2⟩:=h;subst he;simpa using ih h2
theorem GrR.imp(h:∀ v u,V0R S w g v u→V0R S' w' g' v u){a:Bool}{cs:List V0}{v:Value}(hh:GrR S w g a cs v):GrR S' w' g' a cs v:=by
 cases a
 ·exact Cs.imp (p:=fun _ _=>True) h hh
 ·obtain⟨us,he,h1⟩:=hh;exact⟨us,he,Cs.imp (p:=fun _ _=>True) h h1⟩
theorem ql3.imp(h:∀ v u,V0R S w g v u→V0R S' w' g' v u):∀ {vs:List (Bool×List V0)} {us:List Value},ql3 S w g vs us→ql3 S' w' g' vs us
 | [],_,hh=>hh
 | _::_,_,⟨u,us',he,h1,h2⟩=>⟨u,us',he,h1.imp h,ql3.imp h h2⟩
theorem VR.imp(h:∀ v u,V0R S w g v u→V0R S' w' g' v u){v:V}{u:Value}(hh:VR S w g v u):VR S' w' g' v u:=by
 cases v with
 | c v0=>exact h _ _ hh
 | agg cs=>obtain⟨us,he,h1⟩:=hh;exact⟨us,he,Cs.imp (p:=fun _ _=>True) h h1⟩
 | tup vs=>obtain⟨us,he,h1⟩:=hh;exact⟨us,he,ql3.imp h h1⟩
theorem GrR.map{f:V0→V0}(h:∀ v u,V0R S w g v u→V0R S' w' g' (f v) u){a:Bool}{cs:List V0}{v:Value}(hh:GrR S w g a cs v):GrR S' w' g' a (cs.map f) v:=by
 cases a
 ·exact Cs.map h hh
 ·obtain⟨us,he,h1⟩:=hh;exact⟨us,he,Cs.map h h1⟩
theorem ql3.map{f:V0→V0}(h:∀ v u,V0R S w g v u→V0R S' w' g' (f v) u):∀ {vs:List (Bool×List V0)} {us:List Value},ql3 S w g vs us→ql3 S' w' g' (vs.map fun p=>(p.1,p.2.map f)) us
 | [],_,hh=>hh
 | _::_,_,⟨u,us',he,h1,h2⟩=>⟨u,us',he,h1.map h,ql3.map h h2⟩
theorem Rp.noAgg{S:qab}{w:World}:∀(t:Ty) (x:t.T) (us:List Value),Rp S w t x us→∀ u∈us,(∀ us,u≠.agg us)∧(∀ us,u≠.tuple us)
  | .int _,_,_,h,u,hu=>by cases h;simp at hu;subst hu;simp
  | .bool,_,_,h,u,hu=>by cases h;simp at hu;subst hu;simp
  | .str,_,_,h,u,hu=>by cases h;simp at hu;subst hu;simp
  | .sl _,_,_,⟨_,_,hv,_⟩,u,hu=>by subst hv;simp at hu;subst hu;simp
  | .ptr _,_,_,⟨_,_,_,hv,_⟩,u,hu=>by subst hv;simp at hu;subst hu;simp
  | .fn _ _,_,_,⟨_,hv,_⟩,u,hu=>by subst hv;simp at hu;subst hu;simp
  | .lab t,x,us,⟨_,h⟩,u,hu=>Rp.noAgg t x.2 us h u hu
  | .st c,x,vs,h,u,hu=>Rp.noAgg c x vs h u hu
  | .nil,_,_,h,u,hu=>by cases h;cases hu
  | .cons a b,x,vs,⟨us,ws,hv,h1,h2⟩,u,hu=>by
      subst hv
      rcases List.mem_append.1 hu with hu | hu
      · exact Rp.noAgg a x.1 us h1 u hu
      · exact Rp.noAgg b x.2 ws h2 u hu
theorem V0R.sc{v:V0}{u:Value}(h:V0R S w g v u)(hs:v.sc=true):(∀ us,u≠.agg us)∧(∀ us,u≠.tuple us):=by
 cases v with
 | d t x =>
  cases t<;>simp[V0.sc,Ty.sc] at hs<;>simp only[V0R,Rp] at h
  ·cases h;simp
  ·cases h;simp
  ·cases h;simp
  ·obtain⟨A,c,hv,_⟩:=h;cases hv;simp
  ·obtain⟨b,o,us,hv,_⟩:=h;cases hv;simp
  ·obtain⟨us,hv,_⟩:=h;cases hv;simp
  ·exact Rp.noAgg _ _ _ h.2 u (by simp)
 | ip c x off=>obtain⟨b,o,us,hv,_⟩:=h;subst hv;simp
 | nils t=>obtain⟨A,hv⟩:=h;subst hv;simp
 | undef=>simp[V0.sc] at hs
 | dead=>simp[V0.sc] at hs
 | box s off=>obtain⟨b,_,hv⟩:=h;subst hv;simp
 | arr s=>obtain⟨_,A,n,c,hv⟩:=h;subst hv;simp
 | elt s i off sz=>obtain⟨b,n,c,_,_,hv⟩:=h;subst hv;simp
 | sub s lo hi sz=>obtain⟨A,n,c,A',_,hv,_⟩:=h;subst hv;simp
 | ln n=>obtain⟨A,c,hv⟩:=h;subst hv;simp
theorem qfO{u:Value}(h:∀ us,u≠.agg us):u.cells=#[u]:=by
 cases u<;>first | rfl | exact absurd rfl (h _)
theorem VR.cells{v:V}{u:Value}(ho:v.ok=true)(h:VR S w g v u):Cs S w g v.cells u.cells.toList:=by
 cases v with
 | c v0 =>
  have:=(V0R.sc (v:=v0) h ho).1
  rw[qfO this]
  exact⟨u,[],rfl,h,rfl⟩
 | agg cs=>obtain⟨us,he,h1⟩:=h;subst he;simpa [Value.cells,V.cells] using h1
 | tup vs=>simp[V.ok] at ho
end
end Ve
namespace Ve
open Go
def upd{α:Type}(f:Nat→α)(i:Nat)(x:α):Nat→α:=fun j=>if j=i then x else f j
theorem qaj{α:Type}(f:Nat→α)(i:Nat)(x:α):upd f i x i=x:=by simp[upd]
theorem qav{α:Type}(f:Nat→α){i j:Nat}(x:α)(h:j≠i):upd f i x j=f j:=by simp[upd,h]
section
variable {S S':qab} {w w':World} {g g':Nat→Value} {C:Ctx} {F F':Nat→qab} {st:St} {tm:Array Value}
theorem V0R.kill(s:Nat){v:V0}{u:Value}(h:V0R S w g v u):V0R S w g (v.kill s) u:=by
 unfold V0.kill
 cases v.refs s
 ·exact h
 ·trivial
theorem V0R.killUpd(s:Nat)(x:Value){v:V0}{u:Value}(h:V0R S w g v u):V0R S w (upd g s x) (v.kill s) u:=by
  unfold V0.kill
  cases hr:v.refs s
  · simp only[cond_false]
    cases v with
    | box s' off => have : s' ≠ s := fun e => by subst e; simp [V0.refs] at hr
                    obtain⟨b,h1,h2⟩:=h;exact⟨b,by rw[qav _ _ this];exact h1,h2⟩
    | arr s' => have : s' ≠ s := fun e => by subst e; simp [V0.refs] at hr
                obtain⟨h1,h2⟩:=h;exact⟨by rw[qav _ _ this];exact h1,h2⟩
    | elt s' i off sz => have : s' ≠ s := fun e => by subst e; simp [V0.refs] at hr
                         obtain⟨b,n,c,h1,h2⟩:=h;exact⟨b,n,c,by rw[qav _ _ this];exact h1,h2⟩
    | sub s' lo hi sz => have : s' ≠ s := fun e => by subst e; simp [V0.refs] at hr
                         obtain⟨A,n,c,A',h1,h2⟩:=h;exact⟨A,n,c,A',by rw[qav _ _ this];exact h1,h2⟩
    | _=>exact h
  · trivial
theorem VR.map{f:V0→V0}{f':V→V}(hc:∀ v,f' (.c v)=.c (f v))(ha:∀ cs,f' (.agg cs)=.agg (cs.map f))(ht:∀ vs,f' (.tup vs)=.tup (vs.map fun p=>(p.1,p.2.map f)))
  (h:∀ v u,V0R S w g v u→V0R S' w' g' (f v) u) {v:V} {u:Value} (hh:VR S w g v u):VR S' w' g' (f' v) u:=by
 cases v with
 | c v0=>rw[hc];exact h _ _ hh
 | agg cs=>rw[ha];obtain⟨us,he,h1⟩:=hh;exact⟨us,he,Cs.map h h1⟩
 | tup vs=>rw[ht];obtain⟨us,he,h1⟩:=hh;exact⟨us,he,ql3.map h h1⟩
theorem qek(ob:List (Option Obj))(f:Obj→Obj)(s:Nat):qad (ob.map fun o=>o.map f) s=(qad ob s).map f:=by
 unfold qad
 simp only[List.getD_eq_getElem?_getD,List.getElem?_map]
 cases ob[s]?<;>rfl
theorem qam(ob:List (Option Obj)){s s':Nat}(o:Option Obj)(h:s'≠s):qad (ob.set s o) s'=qad ob s':=by
 unfold qad
 simp only[List.getD_eq_getElem?_getD]
 rw[List.getElem?_set_ne (Ne.symm h)]
theorem qaC{ob:List (Option Obj)}{s:Nat}{o:Option Obj}{o':Obj}(h:qad (ob.set s o) s=some o'):o=some o':=by
 unfold qad at h
 simp only[List.getD_eq_getElem?_getD] at h
 by_cases hs:s<ob.length
 ·rw[List.getElem?_set_self hs] at h;simpa using h
 ·rw[List.getElem?_eq_none (by simp;omega)] at h;cases h
theorem Obj.frozen_kill(s:Nat)(o:Obj):(o.kill s).frozen=o.frozen:=by cases o<;>first | rfl | (simp only[Obj.kill];cases (s==_)<;>rfl)
theorem Obj.fixed_kill(s:Nat)(o:Obj):(o.kill s).fixed=o.fixed:=by cases o<;>first | rfl | (simp only[Obj.kill];cases (s==_)<;>rfl)
theorem qaZ{s s':Nat}{o:Obj}(h:qad (st.kill s).ob s'=some o):∃ o',qad st.ob s'=some o'∧o=o'.kill s:=by
 unfold St.kill at h
 rw[qek] at h
 cases hh:qad st.ob s' with
 | none=>rw[hh] at h;cases h
 | some o'=>rw[hh] at h;exact⟨o',rfl,by simpa using h.symm⟩
theorem ObR.killUpd(s:Nat)(x:Value)(X:qab){s':Nat}(hne:s'≠s){o:Obj}(h:ObR S w g F s' o):ObR S w (upd g s x) (upd F s X) s' (o.kill s):=by
 cases o with
 | box cs f _ =>
  obtain⟨b,arr,e,h1,h2,h3,h4⟩:=h
  exact⟨b,arr,e,by rw[qav _ _ hne];exact h1,by rw[qav _ _ hne];exact h2,h3,Cs.map (fun v u hv=>V0R.killUpd s x hv) h4⟩
 | arr t xs d fz fx=>unfold ObR at h ⊢;simp only[Obj.kill];rw[qav _ _ hne,qav _ _ hne];exact h
 | hol t xs i fz=>unfold ObR at h ⊢;simp only[Obj.kill];rw[qav _ _ hne,qav _ _ hne];exact h
 | bxo c x k a fz fx=>unfold ObR at h ⊢;simp only[Obj.kill];rw[qav _ _ hne,qav _ _ hne];exact h
 | hlp t xs i d fz =>
  simp only[Obj.kill]
  cases hd:(s==d) with
  | true=>unfold ObR at h ⊢;simp only[cond_true];rw[qav _ _ hne,qav _ _ hne];exact qfJ.hol h
  | false =>
   have hds:d≠s:=fun e=>by rw[e] at hd;simp at hd
   unfold ObR at h ⊢;simp only[cond_false];rw[qav _ _ hne,qav _ _ hne,qav _ _ hds];exact h
theorem ObR.mono{s:Nat}{o:Obj}(hS:∀ b,S b→S' b)(hwS:∀ b,S b→w'.heap[b]? = w.heap[b]?)(hwF:∀ b,F s b→w'.heap[b]? = w.heap[b]?)(h:ObR S w g F s o):ObR S' w' g F s o:=by
 cases o with
 | box cs f _ =>
  obtain⟨b,arr,e,h1,h2,h3,h4⟩:=h
  exact⟨b,arr,e,h1,h2,by rw[hwF b h2];exact h3,Cs.imp (p:=fun _ _=>True) (fun v u hv=>hv.mono hS hwS) h4⟩
 | arr t xs d fz fx=>exact qar.mono hS hwS (fun _ h=>h) hwF h
 | hol t xs i fz=>exact qff.mono (fun _ h=>h) hwF h
 | hlp t xs i d fz=>exact qfJ.mono (fun _ h=>h) hwF h
 | bxo c x k a fz fx=>exact qnV.mono hS hwS (fun _ h=>h) hwF h
theorem Sim.world(h:Sim C S g F st tm w)(hsz:w.heap.size≤w'.heap.size)(hb:∀ b,b<w.heap.size→w'.heap[b]? = w.heap[b]?)(hkin:Kin w w':=by first | exact⟨rfl,rfl,rfl,Nat.le_refl _⟩ | exact⟨rfl,rfl,rfl,Nat.le_succ _⟩):Sim C S g F st tm w' where
 size:=h.size
 fr i v hv:=(h.fr i v hv).imp fun _ _ h'=>h'.mono (fun _ h=>h) fun b hb'=>hb b (h.szS b hb')
 ob s o ho:=(h.ob s o ho).mono (fun _ h=>h) (fun b hb'=>hb b (h.szS b hb')) fun b hb'=>hb b (h.szF s o ho b hb')
 prv:=h.prv
 frz:=h.frz
 dis:=h.dis
 szF s o ho b hb':=Nat.lt_of_lt_of_le (h.szF s o ho b hb') hsz
 szS b hb':=Nat.lt_of_lt_of_le (h.szS b hb') hsz
 S0:=h.S0
 SO:=h.SO
 keep b hb1 hb2:=by rw[hb b (Nat.lt_of_lt_of_le hb1 h.mono)];exact h.keep b hb1 hb2
 mono:=Nat.le_trans h.mono hsz
 kin:=h.kin.trans hkin.d
 fx:=h.fx
theorem Sim.extS(h:Sim C S g F st tm w)(hS:∀ b,S b→S' b)(hsz:∀ b,S' b→b<w.heap.size)(hO:∀ b,S' b→C.S0 b∨C.O b)
  (hF:∀ s o,qad st.ob s=some o→o.frozen=false→∀ b,F s b→¬ S' b):Sim C S' g F st tm w where
 size:=h.size
 fr i v hv:=(h.fr i v hv).imp fun _ _ h'=>h'.mono hS fun _ _=>rfl
 ob s o ho:=(h.ob s o ho).mono hS (fun _ _=>rfl) fun _ _=>rfl
 prv s o ho hf b hb:=⟨hF s o ho hf b hb,(h.prv s o ho hf b hb).2⟩
 frz s o ho hf b hb:=hS b (h.frz s o ho hf b hb)
 dis:=h.dis
 szF:=h.szF
 szS:=hsz
 S0 b hb:=hS b (h.S0 b hb)
 SO:=hO
 keep:=h.keep
 mono:=h.mono
 kin:=h.kin
 fx:=h.fx
theorem Sim.kill(h:Sim C S g F st tm w)(s:Nat):Sim C S g F (st.kill s) tm w where
 size:=by simp[St.kill,h.size]
 fr i v hv:=by
  simp only[St.kill,List.getElem?_map] at hv
  cases hh:st.fr[i]? with
  | none=>rw[hh] at hv;cases hv
  | some v' =>
   rw[hh] at hv
   obtain rfl:v'.kill s=v:=by simpa using hv
   exact VR.map (f:=V0.kill s) (f':=V.kill s) (fun _=>rfl) (fun _=>rfl) (fun _=>rfl) (fun _ _ hv=>hv.kill s) (h.fr i v' hh)
 ob s' o ho:=by
  obtain⟨o',h1,rfl⟩:=qaZ ho
  have:=h.ob s' o' h1
  cases o' with
  | box cs f _=>obtain⟨b,arr,e,h1,h2,h3,h4⟩:=this;exact⟨b,arr,e,h1,h2,h3,Cs.map (fun _ _ hv=>hv.kill s) h4⟩
  | arr t xs d fz fx=>exact this
  | hol t xs i fz=>exact this
  | bxo c x k a fz fx=>exact this
  | hlp t xs i d fz =>
   simp only[Obj.kill]
   cases hd:(s==d) with
   | true=>exact qfJ.hol this
   | false=>exact this
 prv s' o ho hf b hb:=by obtain⟨o',h1,rfl⟩:=qaZ ho;exact h.prv s' o' h1 (by rwa [Obj.frozen_kill] at hf) b hb
 frz s' o ho hf b hb:=by obtain⟨o',h1,rfl⟩:=qaZ ho;exact h.frz s' o' h1 (by rwa [Obj.frozen_kill] at hf) b hb
 dis s1 s2 o1 o2 hne h1 h2 f1 f2 b hb:=by
  obtain⟨o1',e1,rfl⟩:=qaZ h1
  obtain⟨o2',e2,rfl⟩:=qaZ h2
  exact h.dis s1 s2 o1' o2' hne e1 e2 (by rwa [Obj.frozen_kill] at f1) (by rwa [Obj.frozen_kill] at f2) b hb
 szF s' o ho b hb:=by obtain⟨o',h1,rfl⟩:=qaZ ho;exact h.szF s' o' h1 b hb
 szS:=h.szS
 S0:=h.S0
 SO:=h.SO
 keep:=h.keep
 mono:=h.mono
 kin:=h.kin
 fx s' o ho hf:=by obtain⟨o',h1,rfl⟩:=qaZ ho;exact h.fx s' o' h1 (by rwa [Obj.fixed_kill] at hf)
theorem Sim.new(h:Sim C S g F st tm w)(s:Nat)(o:Option Obj)(v:Value)(Fs:qab)(hsz:w.heap.size≤w'.heap.size)
  (hbS:∀ b,S b→w'.heap[b]? = w.heap[b]?) (hbF:∀ s' o',s'≠s→qad st.ob s'=some o'→∀ b,F s' b→w'.heap[b]? = w.heap[b]?)
  (hk:∀ b,b<C.w0.heap.size→¬ C.O b→w'.heap[b]? = w.heap[b]?)
  (ho:∀ o',o=some o'→o'.frozen=false∧o'.fixed=false∧ObR S w' (upd g s v) (upd F s Fs) s o' ∧
   (∀ b,Fs b→¬ S b∧C.O b∧b<w'.heap.size)∧∀ s' o'',s'≠s→qad st.ob s'=some o''→o''.frozen=false→∀ b,Fs b→¬ F s' b) (hkin:Kin w w':=by first | exact⟨rfl,rfl,rfl,Nat.le_refl _⟩ | exact⟨rfl,rfl,rfl,Nat.le_succ _⟩) :
  Sim C S (upd g s v) (upd F s Fs) ((st.kill s).setOb s o) tm w':=by
 have hK:=h.kill s
 have key:∀ s' o',qad ((st.kill s).setOb s o).ob s'=some o'→(s'=s∧o=some o')∨(s'≠s∧∃ o'',qad st.ob s'=some o''∧o'=o''.kill s):=by
  intro s' o' he
  by_cases hs:s'=s
  ·subst hs;exact .inl ⟨rfl,qaC he⟩
  ·rw[St.setOb,qam _ _ hs] at he
   exact .inr ⟨hs,qaZ he⟩
 refine { size:=hK.size,fr:=?_,ob:=?_,prv:=?_,frz:=?_,dis:=?_,szF:=?_,szS:=fun b hb=>Nat.lt_of_lt_of_le (h.szS b hb) hsz,S0:=h.S0,SO:=h.SO,keep:=?_,mono:=Nat.le_trans h.mono hsz,kin:=h.kin.trans hkin.d,fx:=?_ }
 ·intro i v' hv
  simp only[St.setOb,St.kill,List.getElem?_map] at hv
  cases hh:st.fr[i]? with
  | none=>rw[hh] at hv;cases hv
  | some v0 =>
   rw[hh] at hv
   obtain rfl:v0.kill s=v':=by simpa using hv
   exact VR.map (f:=V0.kill s) (f':=V.kill s) (fun _=>rfl) (fun _=>rfl) (fun _=>rfl) (fun _ _ hv=>(V0R.killUpd s v hv).mono (fun _ h=>h) hbS) (h.fr i v0 hh)
 ·intro s' o' he
  rcases key s' o' he with ⟨rfl,rfl⟩ | ⟨hne,o'',h1,rfl⟩
  ·exact(ho o' rfl).2.2.1
  ·exact((h.ob s' o'' h1).killUpd s v Fs hne).mono (fun _ h=>h) hbS fun b hb=>hbF s' o'' hne h1 b (by rwa [qav _ _ hne] at hb)
 ·intro s' o' he hf b hb
  rcases key s' o' he with ⟨rfl,rfl⟩ | ⟨hne,o'',h1,rfl⟩
  ·rw[qaj] at hb;exact⟨((ho o' rfl).2.2.2.1 b hb).1,((ho o' rfl).2.2.2.1 b hb).2.1⟩
  ·rw[qav _ _ hne] at hb;exact h.prv s' o'' h1 (by rwa [Obj.frozen_kill] at hf) b hb
 ·intro s' o' he hf b hb
  rcases key s' o' he with ⟨rfl,rfl⟩ | ⟨hne,o'',h1,rfl⟩
  ·rw[(ho o' rfl).1] at hf;cases hf
  ·rw[qav _ _ hne] at hb;exact h.frz s' o'' h1 (by rwa [Obj.frozen_kill] at hf) b hb
 ·intro s1 s2 o1 o2 hne h1 h2 f1 f2 b hb
  rcases key s1 o1 h1 with ⟨rfl,rfl⟩ | ⟨hn1,p1,e1,rfl⟩
  ·rcases key s2 o2 h2 with ⟨rfl,_⟩ | ⟨hn2,p2,e2,rfl⟩
   ·exact absurd rfl hne
   ·rw[qaj] at hb;rw[qav _ _ hn2];exact(ho o1 rfl).2.2.2.2 s2 p2 hn2 e2 (by rwa [Obj.frozen_kill] at f2) b hb
  ·rw[qav _ _ hn1] at hb
   rcases key s2 o2 h2 with ⟨rfl,rfl⟩ | ⟨hn2,p2,e2,rfl⟩
   ·rw[qaj];exact fun hb'=>(ho o2 rfl).2.2.2.2 s1 p1 hn1 e1 (by rwa [Obj.frozen_kill] at f1) b hb' hb
   ·rw[qav _ _ hn2];exact h.dis s1 s2 p1 p2 hne e1 e2 (by rwa [Obj.frozen_kill] at f1) (by rwa [Obj.frozen_kill] at f2) b hb
 ·intro s' o' he b hb
  rcases key s' o' he with ⟨rfl,rfl⟩ | ⟨hne,o'',h1,rfl⟩
  ·rw[qaj] at hb;exact((ho o' rfl).2.2.2.1 b hb).2.2
  ·rw[qav _ _ hne] at hb;exact Nat.lt_of_lt_of_le (h.szF s' o'' h1 b hb) hsz
 ·intro b hb1 hb2;rw[hk b hb1 hb2];exact h.keep b hb1 hb2
 ·intro s' o' he hf
  rcases key s' _ he with ⟨rfl,rfl⟩ | ⟨hne,o'',h1,rfl⟩
  ·rw[(ho _ rfl).2.1] at hf;cases hf
  ·rw[qav _ _ hne];exact h.fx s' o'' h1 (by rwa [Obj.fixed_kill] at hf)
theorem Sim.set(h:Sim C S g F st tm w)(s:Nat)(o o':Obj)(Fs:qab)(hg:qad st.ob s=some o)(hsz:w.heap.size≤w'.heap.size)
  (hbS:∀ b,S b→w'.heap[b]? = w.heap[b]?) (hbF:∀ s' p,s'≠s→qad st.ob s'=some p→∀ b,F s' b→w'.heap[b]? = w.heap[b]?)
  (hk:∀ b,b<C.w0.heap.size→¬ C.O b→w'.heap[b]? = w.heap[b]?)
  (hf:o'.frozen=false) (hx:o'.fixed=true→g s=C.g0 s) (ho:ObR S w' g (upd F s Fs) s o')
  (hp:∀ b,Fs b→¬ S b∧C.O b∧b<w'.heap.size) (hd:∀ s' p,s'≠s→qad st.ob s'=some p→p.frozen=false→∀ b,Fs b→¬ F s' b) (hkin:Kin w w':=by first | exact⟨rfl,rfl,rfl,Nat.le_refl _⟩ | exact⟨rfl,rfl,rfl,Nat.le_succ _⟩) :
  Sim C S g (upd F s Fs) (st.setOb s (some o')) tm w':=by
 have key:∀ s' p,qad (st.setOb s (some o')).ob s'=some p→(s'=s∧o'=p)∨(s'≠s∧qad st.ob s'=some p):=by
  intro s' p he
  by_cases hs:s'=s
  ·subst hs;exact .inl ⟨rfl,by simpa using qaC he⟩
  ·rw[St.setOb,qam _ _ hs] at he
   exact .inr ⟨hs,he⟩
 refine { size:=h.size,fr:=fun i v hv=>(h.fr i v hv).imp fun _ _ h'=>h'.mono (fun _ h=>h) hbS,ob:=?_,prv:=?_,frz:=?_,dis:=?_,szF:=?_,szS:=fun b hb=>Nat.lt_of_lt_of_le (h.szS b hb) hsz,S0:=h.S0,SO:=h.SO,keep:=?_,mono:=Nat.le_trans h.mono hsz,kin:=h.kin.trans hkin.d,fx:=?_ }
 ·intro s' p he
  rcases key s' p he with ⟨rfl,rfl⟩ | ⟨hne,h1⟩
  ·exact ho
  ·have:=(h.ob s' p h1).mono (S':=S) (w':=w') (fun _ h=>h) hbS fun b hb=>hbF s' p hne h1 b hb
   cases p with
   | box cs f _=>obtain⟨b,arr,e,a1,a2,a3⟩:=this;exact⟨b,arr,e,a1,by rw[qav _ _ hne];exact a2,a3⟩
   | arr t xs d fz fx=>unfold ObR at this ⊢;simp only;rw[qav _ _ hne];exact this
   | hol t xs i fz=>unfold ObR at this ⊢;simp only;rw[qav _ _ hne];exact this
   | hlp t xs i d fz=>unfold ObR at this ⊢;simp only;rw[qav _ _ hne];exact this
   | bxo c x k a fz fx=>unfold ObR at this ⊢;simp only;rw[qav _ _ hne];exact this
 ·intro s' p he hf' b hb
  rcases key s' p he with ⟨rfl,rfl⟩ | ⟨hne,h1⟩
  ·rw[qaj] at hb;exact⟨(hp b hb).1,(hp b hb).2.1⟩
  ·rw[qav _ _ hne] at hb;exact h.prv s' p h1 hf' b hb
 ·intro s' p he hf' b hb
  rcases key s' p he with ⟨rfl,rfl⟩ | ⟨hne,h1⟩
  ·rw[hf] at hf';cases hf'
  ·rw[qav _ _ hne] at hb;exact h.frz s' p h1 hf' b hb
 ·intro s1 s2 o1 o2 hne h1 h2 f1 f2 b hb
  rcases key s1 o1 h1 with ⟨rfl,rfl⟩ | ⟨hn1,e1⟩
  ·rcases key s2 o2 h2 with ⟨rfl,_⟩ | ⟨hn2,e2⟩
   ·exact absurd rfl hne
   ·rw[qaj] at hb;rw[qav _ _ hn2];exact hd s2 o2 hn2 e2 f2 b hb
  ·rw[qav _ _ hn1] at hb
   rcases key s2 o2 h2 with ⟨rfl,rfl⟩ | ⟨hn2,e2⟩
   ·rw[qaj];exact fun hb'=>hd s1 o1 hn1 e1 f1 b hb' hb
   ·rw[qav _ _ hn2];exact h.dis s1 s2 o1 o2 hne e1 e2 f1 f2 b hb
 ·intro s' p he b hb
  rcases key s' p he with ⟨rfl,rfl⟩ | ⟨hne,h1⟩
  ·rw[qaj] at hb;exact(hp b hb).2.2
  ·rw[qav _ _ hne] at hb;exact Nat.lt_of_lt_of_le (h.szF s' p h1 b hb) hsz
 ·intro b hb1 hb2;rw[hk b hb1 hb2];exact h.keep b hb1 hb2
 ·intro s' p he hf'
  rcases key s' _ he with ⟨rfl,rfl⟩ | ⟨hne,h1⟩
  ·exact hx hf'
  ·exact h.fx s' p h1 hf'
theorem Sim.put(h:Sim C S g F st tm w)(dst:Option Nat)(v:V)(u:Value)(hv:VR S w g v u) :
  Sim C S g F (st.put dst v) (match dst with | some d=>tm.setIfInBounds d u | none=>tm) w:=by
 cases dst with
 | none=>exact h
 | some d =>
  refine { h with size:=by simp[St.put,h.size],fr:=?_ }
  intro i v' hi
  simp only[St.put] at hi
  by_cases hd:i=d
  ·subst hd
   have hlt:i<st.fr.length:=by
    have:=List.getElem?_eq_some_iff.1 hi
    simpa using this.1
   rw[List.getElem?_set_self hlt] at hi
   obtain rfl:v=v':=by simpa using hi
   have:i<tm.size:=by rw[h.size];exact hlt
   simp[Array.getD_eq_getD_getElem?,Array.getElem?_setIfInBounds_self_of_lt this]
   exact hv
  ·rw[List.getElem?_set_ne (Ne.symm hd)] at hi
   have:=h.fr i v' hi
   simpa [Array.getD_eq_getD_getElem?,Array.getElem?_setIfInBounds_ne (Ne.symm hd)] using this
theorem Sim.setFr(h:Sim C S g F st tm w)(i:Nat)(v:V)(hv:∀ v',st.fr[i]? = some v'→VR S w g v (tm.getD i Go.undef)):Sim C S g F (st.setFr i v) tm w:=by
 refine { h with size:=by simp[St.setFr,h.size],fr:=?_ }
 intro j v' hj
 simp only[St.setFr] at hj
 by_cases hd:j=i
 ·subst hd
  have hlt:j<st.fr.length:=by
   have:=List.getElem?_eq_some_iff.1 hj
   simpa using this.1
  rw[List.getElem?_set_self hlt] at hj
  obtain rfl:v=v':=by simpa using hj
  exact hv _ (List.getElem?_eq_getElem hlt)
 ·rw[List.getElem?_set_ne (Ne.symm hd)] at hj
  exact h.fr j v' hj
end
end Ve
namespace Ve
open Go
section
variable {S S':qab} {w w':World} {g g':Nat→Value} {C:Ctx} {F F':Nat→qab} {st:St} {tm:Array Value} {ob:List (Option Obj)}
theorem qcB{t:Ty}{x:t.T}{u:Value}(h:Rp S w t x [u]):V0R S w g (qgq t x) u:=by
 cases t with
 | ptr c =>
  obtain⟨b,o,us,hv,hb,h1,h2⟩:=h
  exact⟨b,o,us,by simpa using hv,hb,h1,h2⟩
 | _=>exact h
theorem qps:∀ {us:List Value} {n:Nat},us.length=n→Cs S w g (List.replicate n .dead) us
 | [],n,h=>by cases h;rfl
 | u::us,n,h=>by cases h;exact⟨u,us,rfl,trivial,qps rfl⟩
theorem qoV{t:Ty}(h:t.sc=true):t.size=1:=by cases t<;>simp[Ty.sc] at h<;>rfl
theorem qeH{t:Ty}{x:t.T}{us:List Value}(h:Rp S w t x us):Cs S w g (qdC t x) us:=by
 unfold qdC
 cases hs:t.sc
 ·exact qps (Rp.len t x us h)
 ·have hl:=Rp.len t x us h
  rw[qoV hs] at hl
  obtain⟨u,rfl⟩:=List.length_eq_one_iff.1 hl
  exact⟨u,[],rfl,qcB h,rfl⟩
theorem qbP:∀ {c:Ty} {x:c.T} {us:List Value},Rp S w c x us→Cs S w g (qaJ c x) us
 | .cons a b,x,us,⟨u1,u2,he,h1,h2⟩=>by subst he;exact Cs.append (qeH h1) (qbP h2)
 | .nil,x,us,h=>h
 | .int _,x,us,h=>qeH h
 | .bool,x,us,h=>qeH h
 | .str,x,us,h=>qeH h
 | .sl _,x,us,h=>qeH h
 | .ptr _,x,us,h=>qeH h
 | .fn _ _,x,us,h=>qeH h
 | .lab _,x,us,h=>qeH h
 | .st _,x,us,h=>qeH h
theorem qrm{t:Ty}{x:t.T}{us:List Value}(h:Rp S w t x us):Cs S w g (qhF t x) us:=by
 cases t with
 | st c=>exact qbP (c:=c) h
 | _=>exact qeH h
theorem qmO{t:Ty}{x:t.T}{b o:Nat}{us:List Value}(hb:S b)(h:Rp S w t x us)(ha:At w b o us) :
  V0R S w g (qmh t x) (.pointer (some ⟨b,o,none⟩)):=by
 have gen:Rp S w (.cons t .nil) (x,()) us:=⟨us,[],by simp,h,rfl⟩
 cases t with
 | st c=>exact⟨b,o,us,rfl,hb,h,ha⟩
 | _=>exact⟨b,o,us,rfl,hb,gen,ha⟩
def qgm:V0→Prop
 | .d _ _ | .ip _ _ _ | .nils _ | .undef | .dead=>True
 | _=>False
theorem qnO{n:Nat}{v:V0}(h:qgm v):qbs n ob v=[]:=by
 cases n with
 | zero=>rfl
 | succ n=>cases v<;>first | rfl | exact h.elim
theorem qiL(t:Ty)(x:t.T):qgm (qgq t x):=by cases t<;>trivial
theorem qbC(t:Ty)(x:t.T):∀ c∈qdC t x,qgm c:=by
 unfold qdC
 cases t.sc
 ·intro c hc
  obtain⟨_,rfl⟩:=List.mem_replicate.1 hc
  trivial
 ·intro c hc
  simp at hc
  subst hc
  exact qiL t x
theorem qb5:∀(c:Ty) (x:c.T),∀ v∈qaJ c x,qgm v
  | .cons a b,x=>by
      intro v hv
      rcases List.mem_append.1 hv with h | h
      · exact qbC a x.1 v h
      · exact qb5 b x.2 v h
  | .nil,x=>fun v hv=>by cases hv
  | .int k,x=>qbC (.int k) x
  | .bool,x=>qbC .bool x
  | .str,x=>qbC .str x
  | .sl t,x=>qbC (.sl t) x
  | .ptr t,x=>qbC (.ptr t) x
  | .fn f t,x=>qbC (.fn f t) x
  | .lab t,x=>qbC (.lab t) x
  | .st t,x=>qbC (.st t) x
theorem qd0{f:V0→Option Dv}:∀ {cs:List V0} {us:List Value} {ds:List Dv},cs.mapM f=some ds→Cs S w g cs us →
    (∀ c∈cs,∀ u d,f c=some d→V0R S w g c u→Rp S' w' d.t d.x [u])→Rp S' w' (qdS ds).t (qdS ds).x us
  | [],us,ds,hm,hc,_=>by
      have:ds=[]:=by simpa using hm.symm
      subst this
      exact hc
  | c::cs,us,ds,hm,⟨u,us',he,h1,h2⟩,hf=>by
      simp only[List.mapM_cons,Option.bind_eq_bind,Option.pure_def] at hm
      obtain⟨d,hd,hm⟩:=Option.bind_eq_some_iff.1 hm
      obtain⟨ds',hds,hm⟩:=Option.bind_eq_some_iff.1 hm
      obtain rfl:d::ds'=ds:=by simpa using hm
      subst he
      exact⟨[u],us',rfl,hf c (by simp) u d hd h1,qd0 hds h2 fun c' hc'=>hf c' (by simp[hc'])⟩
theorem At.drop{b o:Nat}{us:List Value}(h:At w b o us)(k:Nat):At w b (o+k) (us.drop k):=fun j u hu=>by
 rw[List.getElem?_drop] at hu
 have:=h (k+j) u hu
 rwa [← Nat.add_assoc] at this
theorem qcD(hs:Sim C S g F st tm w):∀(n:Nat) {v:V0} {d:Dv} {u:Value},qpm st.ob n v=some d→V0R S w g v u →
  (∀ b,S b→S' b)→(∀ s∈qbs n st.ob v,∀ o,qad st.ob s=some o→∀ b,F s b→S' b)→Rp S' w d.t d.x [u]
 | 0,v,d,u,h,_,_,_=>by simp[qpm] at h
 | n+1,v,d,u,h,hv,hS,hL=>by
  simp only[qpm] at h
  cases v with
  | d t x =>
   simp only[qbI] at h
   obtain rfl:=Option.some.inj h
   exact Rp.mono hS (fun _ _=>rfl) t x _ hv
  | ip c x off =>
   obtain⟨b,o,us,he,hb,h1,h2⟩:=hv
   cases off with
   | zero =>
    simp only[qbI] at h
    obtain rfl:=Option.some.inj h
    exact⟨b,o,us,by simpa using he,hS b hb,Rp.mono hS (fun _ _=>rfl) c x us h1,h2⟩
   | succ k =>
    simp only[qbI] at h
    obtain⟨ds,hm,rfl⟩:=Option.map_eq_some_iff.1 h
    refine⟨b,o+(k+1),us.drop (k+1),by rw[he],hS b hb,?_,h2.drop _⟩
    refine qd0 hm ((qbP (g:=g) h1).drop _) fun c' hc' u' d' hd' hv'=>?_
    refine qcD hs n hd' hv' hS ?_
    rw[qnO (qb5 c x c' (List.mem_of_mem_drop hc'))]
    intro s hs';cases hs'
  | nils t =>
   simp only[qbI] at h
   obtain rfl:=Option.some.inj h
   obtain⟨A,rfl⟩:=hv
   exact⟨A,0,rfl,Nat.le_refl _,.inl rfl⟩
  | undef=>simp[qbI] at h
  | dead=>simp[qbI] at h
  | box s off =>
   simp only[qbI] at h
   cases ho:qad st.ob s with
   | none=>rw[ho] at h;cases h
   | some o =>
    rw[ho] at h
    cases o with
    | arr=>cases h
    | hol=>cases h
    | hlp=>cases h
    | bxo=>cases h
    | box cells fz fx =>
     obtain⟨ds,hm,rfl⟩:=Option.map_eq_some_iff.1 h
     obtain⟨b,arr,e,hg,hF,hh,hcs⟩:=hs.ob s _ ho
     obtain⟨b',hg',rfl⟩:=hv
     obtain rfl:b=b':=by rw[hg] at hg';simpa using hg'
     have hl:∀ s'∈s::cells.flatMap (qbs n st.ob),∀ o,qad st.ob s'=some o→∀ b,F s' b→S' b:=by
      intro s' hs'
      refine hL s' ?_
      simp only[qbs,ho];exact hs'
     refine⟨b,off,arr.toList.drop off,by simp,hl s (by simp) _ ho b hF,?_,?_⟩
     ·refine qd0 hm (hcs.drop _) fun c' hc' u' d' hd' hv'=>?_
      refine qcD hs n hd' hv' hS fun s' hs'=>hl s' ?_
      simp only[List.mem_cons,List.mem_flatMap]
      exact .inr ⟨c',List.mem_of_mem_drop hc',hs'⟩
     ·have:At w b 0 arr.toList:=qc0 hh fun j u hu=>by simpa using hu
      simpa using this.drop off
  | arr s =>
   simp only[qbI] at h
   cases ho:qad st.ob s with
   | none=>rw[ho] at h;cases h
   | some o =>
    rw[ho] at h
    cases o with
    | box=>cases h
    | hol=>cases h
    | hlp=>cases h
    | bxo=>cases h
    | arr t xs dp fz fx =>
     obtain rfl:=Option.some.inj h
     obtain⟨rfl,_⟩:=hv
     have:=hs.ob s _ ho
     refine qar.freeze (d:=dp) (F:=F s) (fun b hb=>hL s (by simp[qbs]) _ ho b hb) ?_
     exact qar.mono hS (fun _ _=>rfl) (fun _ h=>h) (fun _ _=>rfl) this
  | elt s i off sz =>
   cases off with
   | succ off=>simp[qbI] at h
   | zero =>
   simp only[qbI] at h
   cases ho:qad st.ob s with
   | none=>rw[ho] at h;cases h
   | some o =>
    rw[ho] at h
    cases o with
    | box=>cases h
    | hol=>cases h
    | hlp=>cases h
    | bxo=>cases h
    | arr t xs dp fz fx =>
     by_cases hsz:sz=t.size
     ·simp only[hsz,if_true] at h
      cases t with
      | st c =>
       obtain rfl:=Option.some.inj h
       obtain⟨b,n',cc,hg,hin,rfl⟩:=hv
       have hob:=hs.ob s _ ho
       have hfr:Rp S' w (.sl (.st c)) xs [g s]:=by
        refine qar.freeze (d:=dp) (F:=F s) (fun b hb=>hL s (by simp[qbs]) _ ho b hb) ?_
        exact qar.mono hS (fun _ _=>rfl) (fun _ h=>h) (fun _ _=>rfl) hob
       obtain⟨A2,c2,hv2,hc2,hx⟩:=hfr
       rw[hg] at hv2
       obtain⟨rfl,rfl,rfl⟩:some ⟨b,0,none⟩=A2∧n'=xs.length∧cc=c2:=by simpa using hv2
       rcases hx with hx | ⟨b',o',he,hb',hx⟩
       ·rw[hx] at hin;simp at hin
       ·obtain⟨rfl,rfl⟩:b=b'∧0=o':=by simpa using he
        have hxi:xs[i]? = some (xs.getD i (qql c)):=by
         rw[List.getD_eq_getElem?_getD,List.getElem?_eq_getElem hin];rfl
        obtain⟨us,h1,h2⟩:=hx i _ hxi
        refine⟨b,i*(Ty.st c).size,us,by rw[hsz];rfl,hb',h1,?_⟩
        simpa using h2
      | _=>cases h
     ·simp[hsz] at h
  | ln n=>cases h
  | sub s lo hi sz =>
   simp only[qbI] at h
   cases ho:qad st.ob s with
   | none=>rw[ho] at h;cases h
   | some o =>
    rw[ho] at h
    cases o with
    | box=>cases h
    | hol=>cases h
    | hlp=>cases h
    | bxo=>cases h
    | arr t xs dp fz fx =>
     by_cases hsz:sz=t.size
     ·simp only[hsz,if_true] at h
      obtain rfl:=Option.some.inj h
      obtain⟨A,n',c,A',hg,rfl,hlh,hn,hA⟩:=hv
      have hob:=hs.ob s _ ho
      have hfr:Rp S' w (.sl t) xs [g s]:=by
       refine qar.freeze (d:=dp) (F:=F s) (fun b hb=>hL s (by simp[qbs]) _ ho b hb) ?_
       exact qar.mono hS (fun _ _=>rfl) (fun _ h=>h) (fun _ _=>rfl) hob
      obtain⟨A2,c2,hv2,hc2,hx⟩:=hfr
      rw[hg] at hv2
      obtain⟨rfl,rfl,rfl⟩:A=A2∧n'=xs.length∧c=c2:=by simpa using hv2
      have hlen:((xs.take hi).drop lo).length=hi-lo:=by simp;omega
      refine⟨A',c-lo,by rw[hlen],by rw[hlen];omega,?_⟩
      by_cases hlt:lo<hi
      ·right
       obtain⟨b,rfl,rfl⟩:=hA (by omega)
       rcases hx with hx | ⟨b',o',he,hb',hx⟩
       ·rw[hx] at hn;simp at hn;omega
       ·obtain⟨rfl,rfl⟩:b=b'∧0=o':=by simpa using he
        refine⟨b,lo*sz,rfl,hb',fun i x hi'=>?_⟩
        rw[List.getElem?_drop] at hi'
        have hlt2:lo+i<hi:=by
         rcases Nat.lt_or_ge (lo+i) hi with h' | h'
         ·exact h'
         ·rw[List.getElem?_eq_none (by simp;omega)] at hi';cases hi'
        rw[List.getElem?_take_of_lt hlt2] at hi'
        obtain⟨us,h1,h2⟩:=hx (lo+i) x hi'
        refine⟨us,h1,?_⟩
        rw[hsz,← Nat.add_mul]
        simpa using h2
      ·left
       have:((xs.take hi).drop lo).length=0:=by omega
       exact List.length_eq_zero_iff.1 this
     ·simp[hsz] at h
theorem qdr(hs:Sim C S g F st tm w){v:V0}{d:Dv}{u:Value}(h:frz st.ob v=some d)(hv:V0R S w g v u)(hS:∀ b,S b→S' b)
  (hL:∀ s∈qdJ st.ob v,∀ o,qad st.ob s=some o→∀ b,F s b→S' b):Rp S' w d.t d.x [u]:=qcD hs 3 h hv hS hL
theorem Dv.to_some{d:Dv}{u:Ty}{x:u.T}(h:d.to u=some x):∃ e:d.t=u,x=e ▸ d.x:=by
 unfold Dv.to cast? at h
 by_cases e:d.t=u
 ·simp only[e,dif_pos] at h
  exact⟨e,(Option.some.inj h).symm⟩
 ·simp[e] at h
theorem qsS{d:Dv}{u:Ty}{x:u.T}{vs:List Value}(h:d.to u=some x)(hr:Rp S w d.t d.x vs):Rp S w u x vs:=by
 obtain⟨t,y⟩:=d
 obtain⟨e,rfl⟩:=Dv.to_some h
 cases e
 exact hr
theorem qck(hs:Sim C S g F st tm w){t:Ty}{x:t.T}{v:V0}{u:Value}(h:qf7 st.ob t v=some x)(hv:V0R S w g v u)(hS:∀ b,S b→S' b)
  (hL:∀ s∈qdJ st.ob v,∀ o,qad st.ob s=some o→∀ b,F s b→S' b):Rp S' w t x [u]:=by
 obtain⟨d,hd,hx⟩:=Option.bind_eq_some_iff.1 h
 exact qsS hx (qdr hs hd hv hS hL)
theorem qfY(hs:Sim C S g F st tm w)(hS:∀ b,S b→S' b):∀ {c:Ty} {vs:List V0} {x:c.T} {us:List Value},qfP st.ob c vs=some x→Cs S w g vs us →
    (∀ v∈vs,∀ s∈qdJ st.ob v,∀ o,qad st.ob s=some o→∀ b,F s b→S' b)→Rp S' w c x us
  | .nil,[],x,us,h,hc,_=>hc
  | .cons a b,v::vs,x,us,h,⟨u,us',he,h1,h2⟩,hL=>by
      simp only[qfP] at h
      obtain⟨x1,hx1,h⟩:=Option.bind_eq_some_iff.1 h
      obtain⟨x2,hx2,rfl⟩:=Option.map_eq_some_iff.1 h
      subst he
      exact⟨[u],us',rfl,qck hs hx1 h1 hS (hL v (by simp)),qfY hs hS hx2 h2 fun v' hv'=>hL v' (by simp[hv'])⟩
  | .nil,_::_,_,_,h,_,_=>by simp[qfP] at h
  | .cons _ _,[],_,_,h,_,_=>by simp[qfP] at h
  | .int _,_,_,_,h,_,_=>by simp[qfP] at h
  | .bool,_,_,_,h,_,_=>by simp[qfP] at h
  | .str,_,_,_,h,_,_=>by simp[qfP] at h
  | .sl _,_,_,_,h,_,_=>by simp[qfP] at h
  | .ptr _,_,_,_,h,_,_=>by simp[qfP] at h
  | .fn _ _,_,_,_,h,_,_=>by simp[qfP] at h
  | .lab _,_,_,_,h,_,_=>by simp[qfP] at h
  | .st _,_,_,_,h,_,_=>by simp[qfP] at h
end
end Ve
namespace Ve
open Go
section
variable {S S':qab} {w w':World} {g g':Nat→Value} {C:Ctx} {F F':Nat→qab} {st:St} {tm:Array Value}
theorem qcb{c:V0}{v:Value}(h:qcL c v=true):V0R S w g c v:=by
 cases c with
 | d t x =>
  cases t<;>cases v<;>simp[qcL] at h
  ·obtain⟨rfl,rfl⟩:=h;rfl
  ·subst h;rfl
  ·rename_i s;simp only[V0R,Rp];rw[h.1,h.2]
 | nils t =>
  have:v=.slice none 0 0:=by
   cases v with
   | slice A n c =>
    cases A with
    | some A=>simp[qcL] at h
    | none =>
     cases n with
     | succ n=>simp[qcL] at h
     | zero =>
      cases c with
      | succ c=>simp[qcL] at h
      | zero=>rfl
   | _=>simp[qcL] at h
  exact⟨none,this⟩
 | dead=>trivial
 | _=>cases v<;>simp[qcL] at h
theorem qcX:∀ {cs:List V0} {vs:List Value},qbT cs vs=true→Cs S w g cs vs
  | [],[],_=>rfl
  | c::cs,v::vs,h=>by
      have h':qcL c v=true∧qbT cs vs=true:=by simpa [qbT] using h
      exact⟨v,vs,rfl,qcb h'.1,qcX h'.2⟩
  | [],_::_,h=>by simp[qbT] at h
  | _::_,[],h=>by simp[qbT] at h
theorem qcI(hs:Sim C S g F st tm w){P:Program}{ty:TypeId}{x:Operand}{v:V}{a:Act}(ha:a.tmps=tm)(h:opd P st.fr ty x=some v) :
  VR S w g v (a.eval x):=by
 cases x with
 | tmp t =>
  simp only[opd] at h
  simp only[Act.eval,ha]
  exact hs.fr t v h
 | const c =>
  simp only[opd] at h
  simp only[Act.eval]
  cases c with
  | bool b=>obtain rfl:=Option.some.inj h;rfl
  | int k n=>obtain rfl:=Option.some.inj h;rfl
  | string s=>obtain rfl:=Option.some.inj h;rfl
  | slice A n c =>
   cases A with
   | some A=>obtain rfl:=Option.some.inj h;trivial
   | none =>
    cases n with
    | succ n=>obtain rfl:=Option.some.inj h;trivial
    | zero =>
     cases c with
     | succ c=>obtain rfl:=Option.some.inj h;trivial
     | zero =>
      simp only[qjy] at h
      obtain⟨p,_,rfl⟩:=Option.map_eq_some_iff.1 h
      exact⟨none,rfl⟩
  | agg cs =>
   simp only[qjy] at h
   obtain⟨t,_,h⟩:=Option.bind_eq_some_iff.1 h
   split at h
   ·rename_i hz
    obtain rfl:=Option.some.inj h
    exact⟨cs.toList,by simp,qcX (by simpa using (Bool.and_eq_true_iff.1 hz).2)⟩
   ·cases h
  | _=>obtain rfl:=Option.some.inj h;trivial
 | global n=>simp[opd] at h
 | func f =>
  simp only[opd] at h
  obtain rfl:=Option.some.inj h
  exact⟨[],by simp[Act.eval],rfl⟩
theorem V.int_sound{v:V}{k:IntKind}{x:Int}{u:Value}(h:v.int? = some (k,x))(hv:VR S w g v u):u=.int k x:=by
 cases v with
 | c v0 =>
  cases v0 with
  | d t y =>
   cases t<;>simp[V.int?] at h
   obtain⟨rfl,rfl⟩:=h
   simpa [VR,V0R,Rp] using hv
  | _=>simp[V.int?] at h
 | _=>simp[V.int?] at h
theorem V.bool_sound{v:V}{b:Bool}{u:Value}(h:v.bool? = some b)(hv:VR S w g v u):u=.bool b:=by
 cases v with
 | c v0 =>
  cases v0 with
  | d t y =>
   cases t<;>simp[V.bool?] at h
   subst h
   simpa [VR,V0R,Rp] using hv
  | _=>simp[V.bool?] at h
 | _=>simp[V.bool?] at h
theorem V.str_sound{v:V}{s:ByteArray}{u:Value}(h:v.str? = some s)(hv:VR S w g v u):u=.string s:=by
 cases v with
 | c v0 =>
  cases v0 with
  | d t y =>
   cases t<;>simp[V.str?] at h
   subst h
   simpa [VR,V0R,Rp] using hv
  | _=>simp[V.str?] at h
 | _=>simp[V.str?] at h
def qs7(S:qab)(F:Nat→qab)(st:St)(w w2:World):Prop:=∀ b,(S b∨∃ s o,qad st.ob s=some o∧F s b)→w2.heap[b]? = w.heap[b]?
def qr5{ρ:Type}(P:Program)(o:Oper)(a:Act)(C:Ctx)(S:qab)(g:Nat→Value)(F:Nat→qab)(st:St)(w:World)(K:V→St→Option ρ)(r:ρ):Prop :=
 ∃ u v st' S' F',(∀ w2,qs7 S F st w w2→(execOp a.eval o).run P w2=.ok (.value u) w2)∧Sim C S' g F' st' a.tmps w∧VR S' w g v u∧K v st'=some r
theorem qr5.same{ρ:Type}{P:Program}{o:Oper}{a:Act}{K:V→St→Option ρ}{r:ρ}(hs:Sim C S g F st a.tmps w){u:Value}{v:V}(hu:VR S w g v u)
  (hk:K v st=some r) (hrun:∀ w2,qs7 S F st w w2→(execOp a.eval o).run P w2=.ok (.value u) w2):qr5 P o a C S g F st w K r :=
 ⟨u,v,st,S,F,hrun,hs,hu,hk⟩
theorem qaQ{ρ:Type}{b:Bool}{K:Unit→Option ρ}{r:ρ}(h:(chk b).bind K=some r):b=true∧K ()=some r:=by
 cases b
 ·simp[chk] at h
 ·exact⟨rfl,by simpa [chk] using h⟩
theorem qeJ{P:Program}{t:TypeId}(hu:P.underlying t=some .bool)(a b:Bool)(w2:World):(Op.equal t (.bool a) (.bool b)).run P w2=.ok (a==b) w2:=by
 have h:∀ d:Nat,(Op.equalIn (d+1) t (.bool a) (.bool b)).run P w2=.ok (a==b) w2:=fun d=>by
  simp[Op.equalIn,run_underlying hu]
 exact h 9999
theorem qfh{P:Program}{t e:TypeId}(hu:P.underlying t=some (.slice e))(A:Option Addr)(n c:Nat)(w2:World) :
  (Op.equal t (.slice A n c) (.slice none 0 0)).run P w2=.ok A.isNone w2:=by
 have h:∀ d:Nat,(Op.equalIn (d+1) t (.slice A n c) (.slice none 0 0)).run P w2=.ok A.isNone w2:=fun d=>by
  cases A<;>simp[Op.equalIn,run_underlying hu]
 exact h 9999
theorem qie{ρ:Type}{P:Program}{op:BinOp}{xt:TypeId}{X Y:Operand}{x y:Value}{vx vy:V}{K:V→Option ρ}{r:ρ}
    (h:qp2 op vx vy K=some r) (hx:VR S w g vx x) (hy:VR S w g vy y) (hb:∀ a,vx.bool? = some a→P.underlying xt=some .bool) :
    ∃ u v,K v=some r∧VR S w g v u∧∀ w2,(do eqGuard op xt X Y x y;Go.binOp op xt x y:Sem Value).run P w2=.ok u w2:=by
  unfold qp2 at h
  split at h
  · rename_i k a k' b hix hiy
    obtain rfl:=V.int_sound hix hx
    obtain rfl:=V.int_sound hiy hy
    cases op<;>simp only at h
    case shl =>
      obtain⟨hc,h⟩:=qaQ h
      refine⟨_,_,h,rfl,fun w2=>?_⟩
      have:¬ b<0:=by simpa using hc
      simp[eqGuard,Go.binOp,Op.shift,this]
    case shr =>
      obtain⟨hc,h⟩:=qaQ h
      refine⟨_,_,h,rfl,fun w2=>?_⟩
      have:¬ b<0:=by simpa using hc
      simp[eqGuard,Go.binOp,Op.shift,this]
    all_goals
      by_cases hk:k=k'
      · subst hk
        simp only[if_true] at h
        first
        | (obtain⟨hc,h⟩:=qaQ h
           refine⟨_,_,h,rfl,fun w2=>?_⟩
           have:¬ b=0:=by simpa using hc
           simp[eqGuard,Go.binOp,Op.intDiv,this])
        | (refine⟨_,_,h,rfl,fun w2=>?_⟩
           simp[eqGuard,Go.binOp,Op.intArith,Op.intBits,Op.intCmp])
        | (cases h)
      · simp[hk] at h
  · split at h
    · rename_i a b hix hiy
      obtain rfl:=V.str_sound hix hx
      obtain rfl:=V.str_sound hiy hy
      cases op<;>simp only at h
      case add =>
        obtain⟨hc,h⟩:=qaQ h
        refine⟨_,_,h,rfl,fun w2=>?_⟩
        have hl:a.size+b.size≤70368744177664:=by simpa using hc
        have e:IntKind.i64.max=9223372036854775807:=by decide
        simp only[eqGuard,Go.binOp,Op.stringOp]
        simp[e];omega
      case eql=>exact⟨_,_,h,rfl,fun w2=>by simp[eqGuard,Go.binOp,Op.stringOp]⟩
      case neq=>exact⟨_,_,h,rfl,fun w2=>by simp[eqGuard,Go.binOp,Op.stringOp]⟩
      all_goals (cases h)
    · split at h
      · rename_i a b hix hiy
        obtain rfl:=V.bool_sound hix hx
        obtain rfl:=V.bool_sound hiy hy
        have hu:=hb a hix
        cases op<;>simp only at h
        case eql=>exact⟨_,_,h,rfl,fun w2=>by simp[eqGuard,Go.binOp,qeJ hu]⟩
        case neq=>exact⟨_,_,h,rfl,fun w2=>by cases a<;>cases b<;>simp[eqGuard,Go.binOp,qeJ hu]⟩
        all_goals (cases h)
      · cases h
end
end Ve
namespace Ve
open Go
section
variable {S S':qab} {w w':World} {g g':Nat→Value} {C:Ctx} {F F':Nat→qab} {st:St} {tm:Array Value} {P:Program}
theorem qc8{t:TypeId}{d:TypeDesc}(h:P.underlying t=some d):∃ i,P.info? t=some i∧P.cellsOf t=i.size:=by
 unfold Program.underlying at h
 cases hi:P.info? t with
 | none=>rw[hi] at h;cases h
 | some i=>exact⟨i,rfl,by simp[Program.cellsOf,hi]⟩
theorem qb0{t:TypeId}{d:TypeDesc}(h:P.underlying t=some d)(w2:World):(Go.sizeOf t).run P w2=.ok (P.cellsOf t) w2:=by
 obtain⟨i,hi,hc⟩:=qc8 h
 simp[Go.sizeOf,typeInfo,hi,hc]
theorem qjH{t:TypeId}{d:TypeDesc}(h:P.underlying t=some d)(w2:World):(isAgg t).run P w2=.ok (qdm P t) w2:=by
 unfold isAgg qdm
 rw[Sem.run_bind,run_underlying h w2,h]
 cases d<;>rfl
def qlO(P:Program)(t:TypeId)(us:List Value):Value:=if qdm P t then .agg us.toArray else us.headD Go.undef
theorem qgF{a:Bool}{cs:List V0}{v:V}{us:List Value}(hc:cellsV a cs=some v)(hcs:Cs S w g cs us) :
  VR S w g v (if a then .agg us.toArray else us.headD Go.undef)∧(a=false→∃ u,us=[u]):=by
 unfold cellsV at hc
 cases a with
 | true =>
  obtain rfl:=Option.some.inj hc
  exact⟨⟨us,rfl,hcs⟩,fun h=>by cases h⟩
 | false =>
  simp only[Bool.false_eq_true,if_false] at hc ⊢
  cases cs with
  | nil=>cases hc
  | cons c cs =>
   cases cs with
   | cons=>cases hc
   | nil =>
    obtain rfl:=Option.some.inj hc
    obtain⟨u,us',rfl,h1,h2⟩:=hcs
    cases h2
    exact⟨h1,fun _=>⟨u,rfl⟩⟩
theorem qc9{t:TypeId}{cs:List V0}{v:V}{us:List Value}(hc:qnh P t cs=some v)(hcs:Cs S w g cs us) :
  VR S w g v (qlO P t us)∧(∃ d,P.underlying t=some d)∧(qdm P t=false→∃ u,us=[u]):=by
 unfold qnh at hc
 cases hu:P.underlying t with
 | none=>rw[hu] at hc;cases hc
 | some d =>
  rw[hu] at hc
  obtain⟨h1,h2⟩:=qgF hc hcs
  exact⟨h1,⟨d,rfl⟩,h2⟩
theorem qbk{t:TypeId}{d:TypeDesc}{us:List Value}{b o:Nat}{w2:World}(hu:P.underlying t=some d)(hn:us.length=P.cellsOf t)(hA:At w2 b o us)
  (h1:qdm P t=false→∃ u,us=[u]):(loadVar t ⟨b,o,none⟩).run P w2=.ok (qlO P t us) w2:=by
 unfold loadVar qlO
 rw[Sem.run_bind,qjH hu w2]
 simp only[Result.andThen_ok]
 cases ha:qdm P t with
 | true =>
  have:=run_loadCells_list (P:=P) w2 ⟨b,o,none⟩ us (fun j v hv=>by rw[Addr.add_lit];exact hA j v hv)
  simp[qb0 hu,← hn,this]
 | false =>
  obtain⟨u,rfl⟩:=h1 ha
  have:=hA 0 u rfl
  simp only[Nat.add_zero] at this
  simp[run_load,this]
def qhX:V→List Nat
 | .c (.box s _)=>[s]
 | .c (.elt s _ _ _)=>[s]
 | _=>[]
def qpj(S:qab)(F:Nat→qab)(st:St)(l:List Nat)(w w2:World):Prop :=
 ∀ b,(S b∨∃ s∈l,∃ o,qad st.ob s=some o∧F s b)→w2.heap[b]? = w.heap[b]?
structure Moved (S:qab) (F:Nat→qab) (st:St) (w:World) (S':qab) (F':Nat→qab) (st':St) (w':World) (M:List Nat):Prop where
 mS:∀ b,S b→S' b
 keep:∀ b,b<w.heap.size→(∀ s∈M,∀ o,qad st.ob s=some o→¬ F s b)→w'.heap[b]? = w.heap[b]?
 keepS:∀ b,S b→w'.heap[b]? = w.heap[b]?
 mF:∀ s' o',qad st'.ob s'=some o'→o'.frozen=false→∀ b,F' s' b→w.heap.size≤b∨(∃ o,qad st.ob s'=some o∧o.frozen=false∧F s' b) ∨
  ∃ s∈M,∃ o,qad st.ob s=some o∧F s b
 size:w.heap.size≤w'.heap.size
theorem Moved.refl(M:List Nat):Moved S F st w S F st w M where
 mS _ h:=h
 keep _ _ _:=rfl
 keepS _ _:=rfl
 mF s' o' h hf b hb:=.inr (.inl ⟨o',h,hf,hb⟩)
 size:=Nat.le_refl _
theorem At.take{b o:Nat}{us:List Value}(h:At w b o us)(k:Nat):At w b o (us.take k):=fun j u hu=>by
 rw[List.getElem?_take] at hu
 split at hu
 ·exact h j u hu
 ·cases hu
theorem qcn{ob:List (Option Obj)}{s:Nat}{o:Obj}(h:qad ob s=some o):ob[s]? = some (some o):=by
 unfold qad at h
 rw[List.getD_eq_getElem?_getD] at h
 cases hs:ob[s]? with
 | none=>rw[hs] at h;cases h
 | some x=>rw[hs] at h;simp at h;rw[h]
theorem St.setOb_same{s:Nat}{o:Obj}(h:qad st.ob s=some o):st.setOb s (some o)=st:=by
 have hg:=qcn h
 unfold St.setOb
 have:st.ob.set s (some o)=st.ob:=by
  apply List.ext_getElem?
  intro i
  rw[List.getElem?_set]
  by_cases hi:s=i
  ·subst hi
   have:=List.getElem?_eq_some_iff.1 hg
   obtain⟨hl,_⟩:=this
   simp only[hl,if_true,hg]
  ·simp[hi]
 rw[this]
theorem Sim.setS(h:Sim C S g F st tm w)(s:Nat)(o o':Obj)(Fs:qab)(hg:qad st.ob s=some o)(hof:o.frozen=false)
  (hS:∀ b,S b→S' b) (hS':∀ b,S' b→S b∨(F s b∧¬ Fs b)) (hFs:∀ b,Fs b→F s b)
  (hf:o'.frozen=false) (hx:o'.fixed=true→g s=C.g0 s) (ho:ObR S' w g (upd F s Fs) s o') :
  Sim C S' g (upd F s Fs) (st.setOb s (some o')) tm w:=by
 have key:∀ s' p,qad (st.setOb s (some o')).ob s'=some p→(s'=s∧o'=p)∨(s'≠s∧qad st.ob s'=some p):=by
  intro s' p he
  by_cases hs:s'=s
  ·subst hs;exact .inl ⟨rfl,by simpa using qaC he⟩
  ·rw[St.setOb,qam _ _ hs] at he
   exact .inr ⟨hs,he⟩
 refine { size:=h.size,fr:=fun i v hv=>(h.fr i v hv).imp fun _ _ h'=>h'.mono hS fun _ _=>rfl,ob:=?_,prv:=?_,frz:=?_,dis:=?_,szF:=?_,szS:=?_,S0:=fun b hb=>hS b (h.S0 b hb),SO:=?_,keep:=h.keep,mono:=h.mono,kin:=h.kin,fx:=?_ }
 ·intro s' p he
  rcases key s' p he with ⟨rfl,rfl⟩ | ⟨hne,h1⟩
  ·exact ho
  ·have:=(h.ob s' p h1).mono (S':=S') (w':=w) hS (fun _ _=>rfl) fun b hb=>rfl
   cases p with
   | box cs f _=>obtain⟨b,arr,e,a1,a2,a3⟩:=this;exact⟨b,arr,e,a1,by rw[qav _ _ hne];exact a2,a3⟩
   | arr t xs d fz fx=>unfold ObR at this ⊢;simp only;rw[qav _ _ hne];exact this
   | hol t xs i fz=>unfold ObR at this ⊢;simp only;rw[qav _ _ hne];exact this
   | hlp t xs i d fz=>unfold ObR at this ⊢;simp only;rw[qav _ _ hne];exact this
   | bxo c x k a fz fx=>unfold ObR at this ⊢;simp only;rw[qav _ _ hne];exact this
 ·intro s' p he hf' b hb
  rcases key s' p he with ⟨rfl,rfl⟩ | ⟨hne,h1⟩
  ·rw[qaj] at hb
   refine⟨fun hb'=>?_,(h.prv s' o hg hof b (hFs b hb)).2⟩
   rcases hS' b hb' with h2 | h2
   ·exact(h.prv s' o hg hof b (hFs b hb)).1 h2
   ·exact h2.2 hb
  ·rw[qav _ _ hne] at hb
   refine⟨fun hb'=>?_,(h.prv s' p h1 hf' b hb).2⟩
   rcases hS' b hb' with h2 | h2
   ·exact(h.prv s' p h1 hf' b hb).1 h2
   ·exact h.dis s' s p o hne h1 hg hf' hof b hb h2.1
 ·intro s' p he hf' b hb
  rcases key s' p he with ⟨rfl,rfl⟩ | ⟨hne,h1⟩
  ·rw[hf] at hf';cases hf'
  ·rw[qav _ _ hne] at hb;exact hS b (h.frz s' p h1 hf' b hb)
 ·intro s1 s2 o1 o2 hne h1 h2 f1 f2 b hb
  rcases key s1 o1 h1 with ⟨rfl,rfl⟩ | ⟨hn1,e1⟩
  ·rcases key s2 o2 h2 with ⟨rfl,_⟩ | ⟨hn2,e2⟩
   ·exact absurd rfl hne
   ·rw[qaj] at hb;rw[qav _ _ hn2];exact h.dis s1 s2 o o2 hne hg e2 hof f2 b (hFs b hb)
  ·rw[qav _ _ hn1] at hb
   rcases key s2 o2 h2 with ⟨rfl,rfl⟩ | ⟨hn2,e2⟩
   ·rw[qaj];exact fun hb'=>h.dis s1 s2 o1 o hne e1 hg f1 hof b hb (hFs b hb')
   ·rw[qav _ _ hn2];exact h.dis s1 s2 o1 o2 hne e1 e2 f1 f2 b hb
 ·intro s' p he b hb
  rcases key s' p he with ⟨rfl,rfl⟩ | ⟨hne,h1⟩
  ·rw[qaj] at hb;exact h.szF s' o hg b (hFs b hb)
  ·rw[qav _ _ hne] at hb;exact h.szF s' p h1 b hb
 ·intro b hb
  rcases hS' b hb with h2 | h2
  ·exact h.szS b h2
  ·exact h.szF s o hg b h2.1
 ·intro b hb
  rcases hS' b hb with h2 | h2
  ·exact h.SO b h2
  ·exact .inr (h.prv s o hg hof b h2.1).2
 ·intro s' p he hf'
  rcases key s' _ he with ⟨rfl,rfl⟩ | ⟨hne,h1⟩
  ·exact hx hf'
  ·exact h.fx s' p h1 hf'
theorem qar.elem{d:Bool}{t:Ty}{xs:List t.T}{b n c:Nat}{Fs:qab}{v:Value}(h:qar S w d t xs v Fs)(hv:v=.slice (some ⟨b,0,none⟩) n c){i:Nat}{x:t.T}(hx:xs[i]? = some x) :
  ∃ us,∃ G:qab,El S w d t x us G∧At w b (i*t.size) us∧Fs b∧∀ b',G b'→Fs b':=by
 obtain⟨A,c',hv',hc,h⟩:=h
 rw[hv] at hv'
 obtain⟨rfl,rfl,rfl⟩:some ⟨b,0,none⟩=A∧n=xs.length∧c=c':=by simpa using hv'
 rcases h with h | ⟨b',arr,e,G,hA,hb,hh,hsz,hG,hd,he⟩
 ·have:=(List.getElem?_eq_some_iff.1 hx).1;omega
 ·obtain rfl:b=b':=by simpa using hA
  obtain⟨us,h1,h2⟩:=he i x hx
  exact⟨us,G i,h1,qc0 hh h2,hb,fun b' hb'=>(hG i b' hb').1⟩
theorem Sim.undeep(hs:Sim C S g F st tm w){s:Nat}{t:Ty}{xs:List t.T}{d fz fx:Bool}(ho:qad st.ob s=some (.arr t xs d fz fx)) :
  ∃ S' F',Sim C S' g F' (st.setOb s (some (.arr t xs (d&&fz) fz fx))) tm w∧Moved S F st w S' F' (st.setOb s (some (.arr t xs (d&&fz) fz fx))) w [] ∧
   (∀ i x,xs[i]? = some x→∀ b n c,g s=.slice (some ⟨b,0,none⟩) n c→∃ us,Rp S' w t x us∧At w b (i*t.size) us∧F s b):=by
 have hob:qar S w d t xs (g s) (F s):=hs.ob s _ ho
 cases d with
 | false =>
  rw[Bool.false_and,St.setOb_same ho]
  refine⟨S,F,hs,Moved.refl _,fun i x hx b n c hg=>?_⟩
  obtain⟨us,G,h1,h2,h3,_⟩:=hob.elem hg hx
  exact⟨us,h1,h2,h3⟩
 | true =>
  cases fz with
  | true =>
   rw[Bool.true_and,St.setOb_same ho]
   refine⟨S,F,hs,Moved.refl _,fun i x hx b n c hg=>?_⟩
   obtain⟨us,G,h1,h2,h3,h4⟩:=hob.elem hg hx
   exact⟨us,h1.freeze fun b' hb'=>hs.frz s _ ho rfl b' (h4 b' hb'),h2,h3⟩
  | false =>
   rw[Bool.true_and]
   obtain⟨F',hF',hw⟩:=hob.weaken
   have ho':=hw (fun b=>S b∨(F s b∧¬ F' b)) (fun b h=>.inl h) (fun b h1 h2=>.inr ⟨h1,h2⟩)
   refine⟨fun b=>S b∨(F s b∧¬ F' b),upd F s F',hs.setS s _ _ F' ho rfl (fun b h=>.inl h) (fun b h=>h) hF' rfl (fun hx=>hs.fx s _ ho hx) ?_,?_,?_⟩
   ·unfold ObR;simp only[qaj];exact ho'
   ·refine⟨fun b h=>.inl h,fun _ _ _=>rfl,fun _ _=>rfl,fun s' o' h hf b hb=>.inr (.inl ?_),Nat.le_refl _⟩
    by_cases hss:s'=s
    ·subst hss;rw[qaj] at hb;exact⟨_,ho,rfl,hF' b hb⟩
    ·rw[qav _ _ hss] at hb
     rw[St.setOb,qam _ _ hss] at h
     exact⟨o',h,hf,hb⟩
   ·intro i x hx b n c hg
    obtain⟨us,G,h1,h2,h3,_⟩:=ho'.elem hg hx
    exact⟨us,h1,h2,hF' b h3⟩
theorem qll{ρ:Type}{t:TypeId}{va:V}{A:Value}{K:V→St→Option ρ}{r:ρ}(hs:Sim C S g F st tm w)(h:qpq P t va st K=some r)(hv:VR S w g va A) :
    ∃ u v st' S' F',(∀ w2,qpj S F st (qhX va) w w2→(Instr.loadAt t A).run P w2=.ok u w2)∧Sim C S' g F' st' tm w∧VR S' w g v u∧K v st'=some r∧Moved S F st w S' F' st' w []:=by
  unfold qpq at h
  cases va with
  | agg=>cases h
  | tup=>cases h
  | c v0 =>
    cases v0 with
    | ip c x off =>
      simp only at h
      obtain⟨b,o,us,rfl,hb,h1,h2⟩:=hv
      split at h
      · rename_i hlen
        obtain⟨v,hc,hk⟩:=Option.bind_eq_some_iff.1 h
        have hcs:Cs S w g (((qaJ c x).drop off).take (P.cellsOf t)) ((us.drop off).take (P.cellsOf t)):=((qbP h1).drop _).take _
        obtain⟨hv,⟨d,hu⟩,h3⟩:=qc9 hc hcs
        refine⟨_,v,st,S,F,fun w2 hw2=>?_,hs,hv,hk,Moved.refl _⟩
        simp only[Instr.loadAt,Instr.sureAddr,Sem.run_bind,Sem.run_pure,Result.andThen_ok]
        exact qbk hu (by rw[hcs.len,hlen]) (((h2.congr (hw2 b (.inl hb))).drop off).take _) h3
      · cases h
    | box s off =>
      simp only at h
      cases ho:qad st.ob s with
      | none=>rw[ho] at h;cases h
      | some ob =>
        rw[ho] at h
        cases ob with
        | arr=>cases h
        | hol=>cases h
        | hlp=>cases h
        | bxo=>cases h
        | box cells fz fx =>
          simp only at h
          split at h
          · rename_i hlen
            obtain⟨v,hc,hk⟩:=Option.bind_eq_some_iff.1 h
            obtain⟨b,arr,e,hg,hF,hh,hcs0⟩:=hs.ob s _ ho
            obtain⟨b',hg',rfl⟩:=hv
            obtain rfl:b=b':=by rw[hg] at hg';simpa using hg'
            have hcs:Cs S w g ((cells.drop off).take (P.cellsOf t)) ((arr.toList.drop off).take (P.cellsOf t)):=(hcs0.drop _).take _
            obtain⟨hv,⟨d,hu⟩,h3⟩:=qc9 hc hcs
            refine⟨_,v,st,S,F,fun w2 hw2=>?_,hs,hv,hk,Moved.refl _⟩
            simp only[Instr.loadAt,Instr.sureAddr,Sem.run_bind,Sem.run_pure,Result.andThen_ok]
            have hA:At w b 0 arr.toList:=qc0 hh fun j u hu=>by simpa using hu
            have hA2:=(hA.congr (hw2 b (.inr ⟨s,by simp[qhX],_,ho,hF⟩))).drop off
            rw[Nat.zero_add] at hA2
            exact qbk hu (by rw[hcs.len,hlen]) (hA2.take _) h3
          · cases h
    | elt s i off sz =>
      simp only at h
      cases ho:qad st.ob s with
      | none=>rw[ho] at h;cases h
      | some ob =>
        rw[ho] at h
        cases ob with
        | box=>cases h
        | hol=>cases h
        | hlp=>cases h
        | bxo=>cases h
        | arr u xs d fz fx =>
          simp only at h
          split at h
          · rename_i hsz
            obtain⟨y,hy,h⟩:=Option.bind_eq_some_iff.1 h
            split at h
            · rename_i hlen
              obtain⟨v,hc,hk⟩:=Option.bind_eq_some_iff.1 h
              obtain⟨b,n,c,hg,hin,rfl⟩:=hv
              have key:∃ S' F',Sim C S' g F' (bif u.flat then st else st.setOb s (some (.arr u xs (d&&fz) fz fx))) tm w ∧
                  Moved S F st w S' F' (bif u.flat then st else st.setOb s (some (.arr u xs (d&&fz) fz fx))) w []∧∃ us,Rp S' w u y us∧At w b (i*u.size) us∧F s b:=by
                cases hf:u.flat with
                | true =>
                  refine⟨S,F,hs,Moved.refl _,?_⟩
                  have hob:qar S w d u xs (g s) (F s):=hs.ob s _ ho
                  obtain⟨us,G,h1,h2,h3,_⟩:=hob.elem hg hy
                  exact⟨us,(h1.flat (d':=false) (S':=S) (w':=w) (G':=fun _=>False) hf:Rp S w u y us),h2,h3⟩
                | false =>
                  obtain⟨S',F',h1,h2,h3⟩:=hs.undeep ho
                  exact⟨S',F',h1,h2,h3 i y hy b n c hg⟩
              obtain⟨S',F',hs',hm,us,h1,h2,h3⟩:=key
              have hcs:Cs S' w g (((qhF u y).drop off).take (P.cellsOf t)) ((us.drop off).take (P.cellsOf t)):=((qrm h1).drop _).take _
              obtain⟨hv,⟨d',hu⟩,h4⟩:=qc9 hc hcs
              refine⟨_,v,_,S',F',fun w2 hw2=>?_,hs',hv,hk,hm⟩
              simp only[Instr.loadAt,Instr.sureAddr,Sem.run_bind,Sem.run_pure,Result.andThen_ok]
              rw[hsz]
              exact qbk hu (by rw[hcs.len,hlen]) (((h2.congr (hw2 b (.inr ⟨s,by simp[qhX],_,ho,h3⟩))).drop off).take _) h4
            · cases h
          · cases h
    | _=>cases h
end
end Ve
namespace Ve
open Go
section
variable {S S':qab} {w w':World} {g g':Nat→Value} {C:Ctx} {F F':Nat→qab} {st:St} {tm:Array Value} {P:Program} {ρ:Type}
theorem qmP{t:TypeId}(h:P.cellsOf t≠0):∃ i,P.info? t=some i∧P.cellsOf t=i.size:=by
 unfold Program.cellsOf at h ⊢
 cases hi:P.info? t with
 | none=>simp[hi] at h
 | some i=>exact⟨i,rfl,by simp⟩
theorem qiv{t:TypeId}(h:P.cellsOf t≠0)(w2:World):(Go.sizeOf t).run P w2=.ok (P.cellsOf t) w2:=by
 obtain⟨i,hi,hc⟩:=qmP h
 simp[Go.sizeOf,typeInfo,hi,hc]
theorem qe7{s:TypeId}{fs:Array Field}{f:Nat}{fd:Field}{b o:Nat}(hu:P.underlying s=some (.struct fs))(hf:fs[f]? = some fd)(h0:P.cellsOf fd.type≠0)(w2:World) :
  (Instr.fieldAt s (.pointer (some ⟨b,o,none⟩)) f).run P w2=.ok (.pointer (some ⟨b,o+fd.offset,none⟩)) w2:=by
 simp[Instr.fieldAt,run_underlying hu,hf,Instr.sureAddr,fieldPlace,qiv h0,h0,Addr.add_lit]
theorem qfS{s:TypeId}{va:V}{A:Value}{f:Nat}{K:V→Option ρ}{r:ρ}(h:qe2 P s va f K=some r)(hv:VR S w g va A) :
  ∃ u v,(∀ w2,(Instr.fieldAt s A f).run P w2=.ok u w2)∧VR S w g v u∧K v=some r:=by
 unfold qe2 at h
 split at h
 ·rename_i fs hu
  split at h
  ·rename_i fd hf
   split at h
   ·cases h
   ·rename_i h0
    split at h
    ·rename_i c x off
     obtain⟨b,o,us,rfl,hb,h1,h2⟩:=hv
     exact⟨_,.c (.ip c x (off+fd.offset)),fun w2=>qe7 hu hf h0 w2,⟨b,o,us,by rw[Nat.add_assoc],hb,h1,h2⟩,h⟩
    ·rename_i s' off
     obtain⟨b,hg,rfl⟩:=hv
     exact⟨_,.c (.box s' (off+fd.offset)),fun w2=>qe7 hu hf h0 w2,⟨b,hg,rfl⟩,h⟩
    ·rename_i s' i off sz
     obtain⟨b,n,c,hg,hin,rfl⟩:=hv
     exact⟨_,.c (.elt s' i (off+fd.offset) sz),fun w2=>qe7 hu hf h0 w2,⟨b,n,c,hg,hin,by rw[Nat.add_assoc]⟩,h⟩
    ·cases h
  ·cases h
 ·cases h
theorem qka{s:TypeId}{va:V}{A:Value}{f:Nat}{K:V→Option ρ}{r:ρ}(h:qmt P s va f K=some r)(hv:VR S w g va A) :
  ∃ u v,(∀ w2,(Instr.field s A f).run P w2=.ok u w2)∧VR S w g v u∧K v=some r:=by
 unfold qmt at h
 split at h
 ·rename_i fs hu
  split at h
  ·rename_i fd hf
   split at h
   ·rename_i cs
    simp only at h
    split at h
    ·rename_i hlen
     obtain⟨v,hc,hk⟩:=Option.bind_eq_some_iff.1 h
     obtain⟨us,rfl,h1⟩:=hv
     have hcs:Cs S w g ((cs.drop fd.offset).take (P.cellsOf fd.type)) ((us.drop fd.offset).take (P.cellsOf fd.type)):=(h1.drop _).take _
     obtain⟨hv,⟨d,hu2⟩,h3⟩:=qc9 hc hcs
     refine⟨_,v,fun w2=>?_,hv,hk⟩
     simp only[Instr.field,Sem.run_bind,run_underlying hu w2,Result.andThen_ok,hf,asAgg,Sem.run_pure,part,qjH hu2 w2,qlO]
     cases ha:qdm P fd.type with
     | true =>
      simp only[if_true,Sem.run_bind,qb0 hu2 w2,Result.andThen_ok,Sem.run_pure]
      congr 2
      apply Array.ext'
      simp[List.extract,Nat.add_sub_cancel_left]
     | false =>
      obtain⟨u,hu3⟩:=h3 ha
      have hn:1=P.cellsOf fd.type:=by
       rw[← hlen,← hcs.len,hu3];rfl
      have h5:us[fd.offset]? = some u:=by
       rw[← hn] at hu3
       have:=congrArg (fun l=>l[0]?) hu3
       simpa using this
      have h6:us.toArray[fd.offset]? = some u:=by simpa using h5
      simp only[Bool.false_eq_true,if_false,h6,hu3]
      rfl
    ·cases h
   ·cases h
  ·cases h
 ·cases h
theorem qnA{α:Type}{xs:List α}{i:Int}{y:α}(h:idx? xs i=some y):0≤i∧i<xs.length∧xs[i.toNat]? = some y:=by
 unfold idx? at h
 by_cases h0:0≤i
 ·simp only[h0,decide_true,cond_true] at h
  have:=(List.getElem?_eq_some_iff.1 h).1
  exact⟨h0,by omega,h⟩
 ·simp[h0] at h
theorem qfV{t:TypeId}{m:Nat}(h:qhV P t=some m):∃ e d,P.underlying t=some (.slice e)∧P.underlying e=some d∧m=P.cellsOf e:=by
 unfold qhV at h
 split at h
 ·rename_i e hu
  obtain⟨d,hd,rfl⟩:=Option.map_eq_some_iff.1 h
  exact⟨e,d,hu,hd,rfl⟩
 ·cases h
theorem qdI{t:TypeId}{m b o n c:Nat}{k:IntKind}{i:Int}(hm:qhV P t=some m)(h0:0≤i)(h1:i<n)(w2:World) :
  (Instr.indexAt t (.slice (some ⟨b,o,none⟩) n c) (.int k i)).run P w2=.ok (.pointer (some ⟨b,o+i.toNat*m,none⟩)) w2:=by
 obtain⟨e,d,hu,he,rfl⟩:=qfV hm
 simp[Instr.indexAt,asIntOf,run_underlying hu,h0,h1,qb0 he,Addr.add_lit]
theorem qf1{t:TypeId}{m:Nat}{vx vi:V}{X I:Value}{K:V→Option ρ}{r:ρ}(hs:Sim C S g F st tm w)(hm:qhV P t=some m)
  (h:qdA m vx vi st K=some r) (hx:VR S w g vx X) (hi:VR S w g vi I) :
  ∃ u v,(∀ w2,(Instr.indexAt t X I).run P w2=.ok u w2)∧VR S w g v u∧K v=some r:=by
 unfold qdA at h
 split at h
 ·rename_i k i hii
  obtain rfl:=V.int_sound hii hi
  split at h
  ·rename_i t' xs
   split at h
   ·rename_i u xs
    split at h
    ·rename_i hsz
     obtain⟨y,hy,h⟩:=Option.bind_eq_some_iff.1 h
     obtain⟨h0,h1,hy⟩:=qnA hy
     obtain⟨A,c,hv,hc,hx⟩:=hx
     obtain rfl:X=.slice A xs.length c:=by simpa using hv
     rcases hx with rfl | ⟨b,o,rfl,hb,he⟩
     ·simp at h1;omega
     ·obtain⟨us,h2,h3⟩:=he _ _ hy
      rw[hsz] at h3
      exact⟨_,.c (qmh u y),fun w2=>qdI hm h0 h1 w2,qmO hb h2 h3,h⟩
    ·cases h
   ·cases h
  ·rename_i s
   split at h
   ·rename_i u xs d fz fx ho
    split at h
    ·rename_i hsz
     obtain⟨hc,h⟩:=qaQ h
     simp only[Bool.and_eq_true,decide_eq_true_eq] at hc
     obtain⟨rfl,_⟩:=hx
     obtain⟨A,c,hv,hcc,hob⟩:=hs.ob s _ ho
     rcases hob with h' | ⟨b,arr,e,G,rfl,_⟩
     ·omega
     ·rw[hv]
      refine⟨_,.c (.elt s i.toNat 0 m),fun w2=>qdI hm hc.1 hc.2 w2,⟨b,_,_,hv,by omega,by simp⟩,h⟩
    ·cases h
   ·rename_i u xs hj fz ho
    split at h
    ·rename_i hsz
     obtain⟨hc,h⟩:=qaQ h
     simp only[Bool.and_eq_true,decide_eq_true_eq] at hc
     obtain⟨rfl,_⟩:=hx
     obtain⟨b,c,arr,e,G,hv,_⟩:=hs.ob s _ ho
     rw[hv]
     exact⟨_,.c (.elt s i.toNat 0 m),fun w2=>qdI hm hc.1 hc.2 w2,⟨b,_,_,hv,by omega,by simp⟩,h⟩
    ·cases h
   ·cases h
  ·rename_i s lo hi' sz
   split at h
   ·rename_i u xs d fz fx ho
    split at h
    ·rename_i hsz
     obtain⟨rfl,rfl⟩:=hsz
     obtain⟨hc,h⟩:=qaQ h
     simp only[Bool.and_eq_true,decide_eq_true_eq] at hc
     obtain⟨A,n,c,A',hg,rfl,hlh,hn,hA⟩:=hx
     obtain⟨A2,c2,hv,hcc,hob⟩:=hs.ob s _ ho
     rw[hg] at hv
     obtain⟨rfl,rfl,rfl⟩:A=A2∧n=xs.length∧c=c2:=by simpa using hv
     obtain⟨b,rfl,rfl⟩:=hA (by omega)
     refine⟨_,.c (.elt s (lo+i.toNat) 0 u.size),fun w2=>qdI hm hc.1.1 (by omega) w2,⟨b,_,_,hg,by omega,?_⟩,h⟩
     rw[Nat.add_mul];rfl
    ·cases h
   ·cases h
  ·cases h
 ·cases h
theorem qkj{t:TypeId}{vx vi:V}{X I:Value}{K:V→Option ρ}{r:ρ}(hu:P.underlying t=some .string)
  (h:qku vx vi K=some r) (hx:VR S w g vx X) (hi:VR S w g vi I) :
  ∃ u v,(∀ w2,(Instr.index t X I).run P w2=.ok u w2)∧VR S w g v u∧K v=some r:=by
 unfold qku at h
 split at h
 ·rename_i k i s hii hss
  obtain rfl:=V.int_sound hii hi
  obtain rfl:=V.str_sound hss hx
  obtain⟨y,hy,h⟩:=Option.bind_eq_some_iff.1 h
  obtain⟨h0,h1,hy⟩:=qnA hy
  refine⟨.int .u8 (y.toNat:Int),vI .u8 (y.toNat:Int),fun w2=>?_,rfl,h⟩
  have hl:s.toList.length=s.size:=by rw[ByteArray.toList_eq];simp
  have hi2:0≤i∧i<(s.size:Int):=⟨h0,by omega⟩
  rw[run_index_string w2 t s k i hu,dif_pos hi2]
  congr 2
  have:s[i.toNat]=y:=by
   rw[ByteArray.toList_eq] at hy
   have:=List.getElem?_eq_some_iff.1 hy
   obtain⟨_,h5⟩:=this
   rw[← h5];simp;rfl
  rw[this]
 ·cases h
theorem qmz{t ty:TypeId}{vx:V}{X:Value}{K:V→Option ρ}{r:ρ}(hs:Sim C S g F st tm w)
  (h:qqe P t vx st K=some r) (hx:VR S w g vx X) (ts:Array TypeId) (ht:ts[0]? = some t) :
  ∃ u v,(∀ w2,(Builtin.len_ ts ty #[X]).run P w2=.ok u w2)∧VR S w g v u∧K v=some r:=by
 have base:∀(A:Option Addr) (n c:Nat) (e:TypeId),P.underlying t=some (.slice e)→∀ w2,(Builtin.len_ ts ty #[.slice A n c]).run P w2=.ok (.int .i64 (n:Int)) w2:=by
  intro A n c e hu w2
  simp[Builtin.len_,ht,run_underlying hu,goInt]
 unfold qqe at h
 split at h
 ·rename_i hu
  split at h
  ·rename_i s hss
   obtain rfl:=V.str_sound hss hx
   exact⟨.int .i64 (s.size:Int),vI .i64 (s.size:Int),fun w2=>by simp[Builtin.len_,ht,run_underlying hu,goInt],rfl,h⟩
  ·cases h
 ·rename_i e hu
  split at h
  ·rename_i t' xs
   split at h
   ·obtain⟨A,c,hv,hc,hx⟩:=hx
    obtain rfl:X=.slice A _ c:=by simpa using hv
    exact⟨_,vI .i64 _,base A _ c e hu,by rfl,h⟩
   ·cases h
  ·obtain⟨A,rfl⟩:=hx
   exact⟨_,vI .i64 0,base A 0 0 e hu,by rfl,h⟩
  ·obtain⟨A,c,rfl⟩:=hx
   exact⟨_,vI .i64 _,base A _ c e hu,by rfl,h⟩
  ·rename_i s
   split at h
   ·rename_i u xs d fz fx ho
    obtain⟨rfl,_⟩:=hx
    obtain⟨A,c,hv,hcc,hob⟩:=hs.ob s _ ho
    rw[hv]
    exact⟨_,vI .i64 _,base A _ c e hu,by rfl,h⟩
   ·cases h
  ·rename_i s lo hi' sz
   split at h
   ·rename_i u xs d fz fx ho
    obtain⟨hc,h⟩:=qaQ h
    obtain⟨A,n,c,A',hg,rfl,hlh,hn,hA⟩:=hx
    exact⟨_,vI .i64 _,base A' _ _ e hu,by rfl,h⟩
   ·cases h
  ·cases h
 ·cases h
end
end Ve
namespace Ve
open Go
section
variable {S S':qab} {w w':World} {g g':Nat→Value} {C:Ctx} {F F':Nat→qab} {st:St} {tm:Array Value} {P:Program} {ρ:Type}
def qhx:Option Int→Option Value→Prop
 | none,none=>True
 | some i,some v=>∃ k,v=.int k i
 | _,_=>False
theorem qbR{x:Option Operand}{ev:Operand→Option V}{el:Operand→Value}{b:Option Int}(hb:qgf (x.map ev)=some b)
  (hev:∀ y v,ev y=some v→VR S w g v (el y)):qhx b (x.map el):=by
 cases x with
 | none=>simp[qgf] at hb;subst hb;trivial
 | some y =>
  simp only[Option.map_some,qgf] at hb
  cases hy:ev y with
  | none=>simp[hy] at hb
  | some v =>
   rw[hy] at hb
   simp only at hb
   split at hb
   ·rename_i k i hi
    obtain rfl:=Option.some.inj hb
    exact⟨k,V.int_sound hi (hev y v hy)⟩
   ·cases hb
def qca(lo:Option Int):Nat:=(lo.getD 0).toNat
def qcm(hi:Option Int)(n:Nat):Nat:=(hi.getD n).toNat
def qcR(lo hi:Option Int)(n:Nat):Prop:=0≤lo.getD 0∧lo.getD 0≤hi.getD n∧hi.getD n≤n
theorem qje{isSl:Bool}{n c:Nat}{lo hi:Option Int}{LO HI:Option Value}(hl:qhx lo LO)(hh:qhx hi HI)(hc:qcR lo hi n)(hn:n≤c)(w2:World) :
  (Instr.sliceBounds isSl n c LO HI none).run P w2=.ok (qca lo,qcm hi n,c) w2:=by
 obtain⟨h0,h1,h2⟩:=hc
 cases lo with
 | none =>
  cases LO with
  | some=>exact hl.elim
  | none =>
   cases hi with
   | none =>
    cases HI with
    | some=>exact hh.elim
    | none=>simp[Instr.sliceBounds,qca,qcm]
   | some b =>
    cases HI with
    | none=>exact hh.elim
    | some HI =>
     obtain⟨k,rfl⟩:=hh
     simp only[Option.getD] at h0 h1 h2
     have hb:0≤b∧b≤(c:Int):=by omega
     simp[Instr.sliceBounds,Instr.sliceBound,asIntOf,hb,qca,qcm]
 | some a =>
  cases LO with
  | none=>exact hl.elim
  | some LO =>
   obtain⟨k,rfl⟩:=hl
   cases hi with
   | none =>
    cases HI with
    | some=>exact hh.elim
    | none =>
     simp only[Option.getD] at h0 h1 h2
     have hb:0≤a∧a≤(n:Int):=by omega
     simp[Instr.sliceBounds,Instr.sliceBound,asIntOf,hb,qca,qcm]
   | some b =>
    cases HI with
    | none=>exact hh.elim
    | some HI =>
     obtain⟨k',rfl⟩:=hh
     simp only[Option.getD] at h0 h1 h2
     have hb:0≤b∧b≤(c:Int):=by omega
     have hb2:0≤a∧a≤((b.toNat:Nat):Int):=by omega
     simp only[Instr.sliceBounds,Instr.sliceBound,asIntOf,Sem.run_bind,Sem.run_pure,Result.andThen_ok,hb,and_self,if_true,hb2,qca,qcm,Option.getD]
def qqZ(A:Option Addr)(c l m:Nat):Option Addr:=if c=l then A else A.map (·.add (l*m))
theorem qpf{t:TypeId}{m n c:Nat}{A:Option Addr}{lo hi:Option Int}{LO HI:Option Value}(hm:qhV P t=some m)(hl:qhx lo LO)(hh:qhx hi HI)(hc:qcR lo hi n)(hn:n≤c)(w2:World) :
  (Instr.sliceAt t (.slice A n c) LO HI none).run P w2=.ok (.slice (qqZ A c (qca lo) m) (qcm hi n-qca lo) (c-qca lo)) w2:=by
 obtain⟨e,d,hu,he,rfl⟩:=qfV hm
 simp only[Instr.sliceAt,Sem.run_bind,run_underlying hu,Result.andThen_ok,Instr.slice,qje hl hh hc hn,qb0 he,Sem.run_pure,qqZ]
theorem qnI{t:TypeId}{s:ByteArray}{lo hi:Option Int}{LO HI:Option Value}(hu:P.underlying t=some .string)(hl:qhx lo LO)(hh:qhx hi HI)(hc:qcR lo hi s.size)(w2:World) :
  (Instr.sliceAt t (.string s) LO HI none).run P w2=.ok (.string (s.extract (qca lo) (qcm hi s.size))) w2:=by
 simp[Instr.sliceAt,run_underlying hu,Instr.slice,qje hl hh hc (Nat.le_refl _)]
theorem qsz{u:Ty}{xs:List u.T}{A:Option Addr}{c l h:Nat}(hr:Rp S w (.sl u) xs [.slice A xs.length c])(hlh:l≤h)(hn:h≤xs.length) :
  Rp S w (.sl u) ((xs.take h).drop l) [.slice (qqZ A c l u.size) (h-l) (c-l)]:=by
 obtain⟨A2,c2,hv2,hc2,hx⟩:=hr
 obtain⟨rfl,rfl⟩:A=A2∧c=c2:=by simpa using hv2
 have hlen:((xs.take h).drop l).length=h-l:=by simp;omega
 refine⟨qqZ A c l u.size,c-l,by rw[hlen],by rw[hlen];omega,?_⟩
 by_cases hlt:l<h
 ·right
  rcases hx with hx | ⟨b',o',rfl,hb',hx⟩
  ·rw[hx] at hn;simp at hn;omega
  ·refine⟨b',o'+l*u.size,?_,hb',fun i x hi'=>?_⟩
   ·have:¬ c=l:=by omega
    simp[qqZ,this,Addr.add_lit]
   ·rw[List.getElem?_drop] at hi'
    have hlt2:l+i<h:=by
     rcases Nat.lt_or_ge (l+i) h with h' | h'
     ·exact h'
     ·rw[List.getElem?_eq_none (by simp;omega)] at hi';cases hi'
    rw[List.getElem?_take_of_lt hlt2] at hi'
    obtain⟨us,h1,h2⟩:=hx (l+i) x hi'
    refine⟨us,h1,?_⟩
    rw[Nat.add_assoc,← Nat.add_mul]
    exact h2
 ·left
  have:((xs.take h).drop l).length=0:=by omega
  exact List.length_eq_zero_iff.1 this
theorem qoN{u:Ty}{xs:List u.T}{lo hi:Option Int}{K:V→Option ρ}{r:ρ}(h:qrW u xs lo hi K=some r) :
  qcR lo hi xs.length∧K (.c (.d (.sl u) ((xs.take (qcm hi xs.length)).drop (qca lo))))=some r:=by
 cases lo<;>cases hi<;>simp only[qrW] at h
 ·refine⟨by simp[qcR],?_⟩
  simpa [qca,qcm] using h
 ·obtain⟨hc,h⟩:=qaQ h
  simp only[Bool.and_eq_true,decide_eq_true_eq] at hc
  exact⟨by simp[qcR];omega,by simpa [qca,qcm] using h⟩
 ·obtain⟨hc,h⟩:=qaQ h
  simp only[Bool.and_eq_true,decide_eq_true_eq] at hc
  exact⟨by simp[qcR];omega,by simpa [qca,qcm] using h⟩
 ·obtain⟨hc,h⟩:=qaQ h
  simp only[Bool.and_eq_true,decide_eq_true_eq] at hc
  exact⟨by simp[qcR];omega,by simpa [qca,qcm] using h⟩
theorem ql6{s:ByteArray}{lo hi:Option Int}{K:V→Option ρ}{r:ρ}(h:qml s lo hi K=some r) :
  qcR lo hi s.size∧K (vS (s.extract (qca lo) (qcm hi s.size)))=some r:=by
 cases lo<;>cases hi<;>simp only[qml] at h
 ·refine⟨by simp[qcR],?_⟩
  have:s.extract 0 s.size=s:=by apply ByteArray.ext;simp[ByteArray.data_extract]
  simp[qca,qcm,this];exact h
 ·obtain⟨hc,h⟩:=qaQ h
  simp only[Bool.and_eq_true,decide_eq_true_eq] at hc
  exact⟨by simp[qcR];omega,by simpa [qca,qcm] using h⟩
 ·obtain⟨hc,h⟩:=qaQ h
  simp only[Bool.and_eq_true,decide_eq_true_eq] at hc
  exact⟨by simp[qcR];omega,by simpa [qca,qcm] using h⟩
 ·obtain⟨hc,h⟩:=qaQ h
  simp only[Bool.and_eq_true,decide_eq_true_eq] at hc
  exact⟨by simp[qcR];omega,by simpa [qca,qcm] using h⟩
theorem qoX{s m n:Nat}{lo hi:Option Int}{K:V→Option ρ}{r:ρ}(h:qrN s m n lo hi K=some r) :
  qcR lo hi n∧(K (.c (.arr s))=some r∧lo=none∧hi=none∨K (.c (.sub s (qca lo) (qcm hi n) m))=some r):=by
 cases lo<;>cases hi<;>simp only[qrN] at h
 ·exact⟨by simp[qcR],.inl ⟨h,rfl,rfl⟩⟩
 ·obtain⟨hc,h⟩:=qaQ h
  simp only[Bool.and_eq_true,decide_eq_true_eq] at hc
  exact⟨by simp[qcR];omega,.inr (by simpa [qca,qcm] using h)⟩
 ·obtain⟨hc,h⟩:=qaQ h
  simp only[Bool.and_eq_true,decide_eq_true_eq] at hc
  exact⟨by simp[qcR];omega,.inr (by simpa [qca,qcm] using h)⟩
 ·obtain⟨hc,h⟩:=qaQ h
  simp only[Bool.and_eq_true,decide_eq_true_eq] at hc
  exact⟨by simp[qcR];omega,.inr (by simpa [qca,qcm] using h)⟩
theorem qqd{t:TypeId}{m n c:Nat}{A:Option Addr}{k k':IntKind}(hm:qhV P t=some m)(w2:World) :
  ∃ A',∀ w2,(Instr.sliceAt t (.slice A n c) none (some (.int k 0)) (some (.int k' 0))).run P w2=.ok (.slice A' 0 0) w2:=by
 obtain⟨e,d,hu,he,rfl⟩:=qfV hm
 exact⟨_,fun w2=>by simp[Instr.sliceAt,run_underlying hu,Instr.slice,Instr.sliceBounds,Instr.sliceBound,asIntOf,qb0 he];rfl⟩
theorem qkb{t:TypeId}{vx:V}{X:Value}{lo hi mx:Option Operand}{ev:Operand→Option V}{el:Operand→Value}{K:V→Option ρ}{r:ρ}(hs:Sim C S g F st tm w)
  (hev:∀ y v,ev y=some v→VR S w g v (el y))
  (h:qma P t vx (lo.map ev) (hi.map ev) (mx.map ev) st K=some r) (hx:VR S w g vx X) :
  ∃ u v,(∀ w2,(Instr.sliceAt t X (lo.map el) (hi.map el) (mx.map el)).run P w2=.ok u w2)∧VR S w g v u∧K v=some r:=by
 unfold qma at h
 split at h
 ·rename_i lo' hi' h1 h2 h3
  have b1:=qbR h1 hev
  have b2:=qbR h2 hev
  have b3:=qbR h3 hev
  have hmx:mx.map el=none:=by
   cases hmx:mx.map el with
   | none=>rfl
   | some=>rw[hmx] at b3;exact b3.elim
  rw[hmx]
  split at h
  ·rename_i t' xs
   split at h
   ·rename_i u xs
    split at h
    ·rename_i hm
     obtain⟨hc,hk⟩:=qoN h
     have hx':=hx
     obtain⟨A,c,hv,hcc,_⟩:=hx
     obtain rfl:X=.slice A xs.length c:=by simpa using hv
     refine⟨_,_,fun w2=>qpf hm b1 b2 hc hcc w2,?_,hk⟩
     exact qsz hx' (by unfold qcR at hc;unfold qca qcm;omega) (by unfold qcR at hc;unfold qcm;omega)
    ·cases h
   ·rename_i s
    split at h
    ·rename_i hu
     obtain⟨hc,hk⟩:=ql6 h
     obtain rfl:X=.string s:=by simpa [VR,V0R,Rp] using hx
     exact⟨_,vS _,fun w2=>qnI hu b1 b2 hc w2,by rfl,hk⟩
    ·cases h
   ·cases h
  ·rename_i s
   split at h
   ·rename_i u xs d fz fx ho
    split at h
    ·rename_i hm
     obtain⟨hc,hk⟩:=qoX h
     obtain⟨rfl,_⟩:=hx
     obtain⟨A,c,hv,hcc,hob⟩:=hs.ob s _ ho
     have hrun:=fun w2=>qpf (A:=A) hm b1 b2 hc hcc.1 w2
     rw[← hv] at hrun
     rcases hk with ⟨hk,rfl,rfl⟩ | hk
     ·refine⟨_,.c (.arr s),hrun,?_,hk⟩
      have e:qqZ A c (qca none) u.size=A:=by
       unfold qqZ qca
       split
       ·rfl
       ·cases A<;>simp[Addr.add_zero']
      refine⟨?_,_,_,_,rfl⟩
      rw[e,hv]
      simp[qca,qcm]
     ·refine⟨_,.c (.sub s _ _ _),hrun,⟨A,_,c,_,hv,rfl,?_,?_,?_⟩,hk⟩
      ·unfold qcR at hc;unfold qca qcm;omega
      ·unfold qcR at hc;unfold qcm;omega
      ·intro hlt
       rcases hob with h0 | ⟨b,arr,e,G,rfl,_⟩
       ·omega
       ·have:¬ c=qca lo':=by omega
        exact⟨b,rfl,by simp[qqZ,this,Addr.add_lit]⟩
    ·cases h
   ·cases h
  ·cases h
 ·rename_i h1 h2 h3
  have b1:=qbR h1 hev
  have b2:=qbR h2 hev
  have b3:=qbR h3 hev
  obtain⟨m,hm,h⟩:=Option.bind_eq_some_iff.1 h
  have e1:lo.map el=none:=by
   cases hq:lo.map el with
   | none=>rfl
   | some=>rw[hq] at b1;exact b1.elim
  obtain⟨k,e2⟩:∃ k,hi.map el=some (.int k 0):=by
   cases hq:hi.map el with
   | none=>rw[hq] at b2;exact b2.elim
   | some=>rw[hq] at b2;obtain⟨k,rfl⟩:=b2;exact⟨k,rfl⟩
  obtain⟨k',e3⟩:∃ k,mx.map el=some (.int k 0):=by
   cases hq:mx.map el with
   | none=>rw[hq] at b3;exact b3.elim
   | some=>rw[hq] at b3;obtain⟨k,rfl⟩:=b3;exact⟨k,rfl⟩
  rw[e1,e2,e3]
  have fin:∀ {A:Option Addr} {n c:Nat} {u:Ty},K (.c (.nils u))=some r→X=.slice A n c→∃ u v,(∀ w2,(Instr.sliceAt t X none (some (.int k 0)) (some (.int k' 0))).run P w2=.ok u w2)∧VR S w g v u∧K v=some r:=by
   intro A n c u hk he
   subst he
   obtain⟨A',hA'⟩:=qqd (A:=A) (n:=n) (c:=c) (k:=k) (k':=k') hm w
   exact⟨_,.c (.nils u),hA',⟨A',rfl⟩,hk⟩
  split at h
  ·split at h
   ·obtain⟨A,c,hv,hcc,_⟩:=hx
    exact fin h (by simpa using hv)
   ·cases h
  ·obtain⟨A,rfl⟩:=hx
   exact fin h rfl
  ·split at h
   ·obtain⟨rfl,A,n,c,hv⟩:=hx
    exact fin h hv
   ·cases h
  ·cases h
 ·cases h
end
end Ve
namespace Ve
open Go
section
variable {S S':qab} {w w':World} {g g':Nat→Value} {C:Ctx} {F F':Nat→qab} {st:St} {tm:Array Value} {P:Program} {ρ:Type}
theorem qlb{a b:Option ρ}{r:ρ}(h:qpQ a b=some r):a=some r∧b=some r:=by
 unfold qpQ at h
 split at h
 ·rename_i e;exact⟨h,e ▸ h⟩
 ·cases h
theorem qhp{vx:V}{X:Value}{K:Bool→Option ρ}{r:ρ}(hs:Sim C S g F st tm w)(h:qqq vx st K=some r)(hx:VR S w g vx X) :
  ∃ A n c,X=.slice A n c∧K A.isNone=some r:=by
 have go:∀(e:Bool) (A:Option Addr),(bif e then qpQ (K true) (K false) else K false)=some r→(e=false→A.isSome=true)→K A.isNone=some r:=by
  intro e A h hA
  cases e with
  | true =>
   have:=qlb h
   cases A
   ·exact this.1
   ·exact this.2
  | false =>
   cases A with
   | none=>have:=hA rfl;cases this
   | some=>exact h
 unfold qqq at h
 simp only at h
 split at h
 ·split at h
  ·obtain⟨A,c,hv,hc,hx⟩:=hx
   refine⟨A,_,c,by simpa using hv,go _ A h fun he=>?_⟩
   rcases hx with rfl | ⟨b,o,rfl,_⟩
   ·simp at he
   ·rfl
  ·cases h
 ·obtain⟨A,rfl⟩:=hx
  exact⟨A,0,0,rfl,go _ A h fun he=>by cases he⟩
 ·split at h
  ·rename_i ho
   obtain⟨rfl,_⟩:=hx
   obtain⟨A,c,hv,hc,hob⟩:=hs.ob _ _ ho
   refine⟨A,_,c,hv,go _ A h fun he=>?_⟩
   rcases hob with rfl | ⟨b,arr,e,G,rfl,_⟩
   ·have h0:List.length _=0:=Nat.le_zero.1 hc.1
    have h1:=List.length_eq_zero_iff.1 h0
    simp[h1] at he
   ·rfl
  ·cases h
 ·cases h
theorem qof{op:UnOp}{vx:V}{X:Value}{K:V→Option ρ}{r:ρ}(h:qsW op vx K=some r)(hx:VR S w g vx X) :
  ∃ u v,(∀ w2,(Op.unary op X).run P w2=.ok u w2)∧VR S w g v u∧K v=some r:=by
 unfold qsW at h
 split at h
 ·split at h
  ·rename_i b hb
   obtain rfl:=V.bool_sound hb hx
   exact⟨_,vB (!b),fun w2=>by simp[Op.unary],rfl,h⟩
  ·cases h
 ·split at h
  ·rename_i k x hb
   obtain rfl:=V.int_sound hb hx
   exact⟨_,vI k _,fun w2=>by simp[Op.unary,Op.intArith],rfl,h⟩
  ·cases h
 ·cases h
theorem qnu(off:Nat):∀(vs:List Value) (k:Nat) (cells:Array Value),off+k+vs.length≤cells.size →
    ((vs.zipIdx k).foldl (fun cs (p:Value×Nat)=>cs.setIfInBounds (off+p.2) p.1) cells).toList=cells.toList.take (off+k)++vs++cells.toList.drop (off+k+vs.length)
  | [],k,cells,_=>by simp
  | v::vs,k,cells,h=>by
      simp only[List.zipIdx_cons,List.foldl_cons]
      simp only[List.length_cons] at h
      rw[qnu off vs (k+1) _ (by simp;omega)]
      simp only[Array.toList_setIfInBounds]
      have e1:(cells.toList.set (off+k) v).take (off+(k+1))=cells.toList.take (off+k)++[v]:=by
        rw[← Nat.add_assoc,List.take_add_one,List.take_set_of_le (Nat.le_refl _)]
        have:off+k<cells.toList.length:=by simp;omega
        rw[List.getElem?_set_self this]
        rfl
      have e2:(cells.toList.set (off+k) v).drop (off+(k+1)+vs.length)=cells.toList.drop (off+k+(vs.length+1)):=by
        rw[List.drop_set_of_lt (by omega)]
        congr 1;omega
      rw[e1,e2]
      simp
theorem qlD{place:Nat→Option (Nat×Nat)}{cells:Array Value}{i off:Nat}{v:Value}{rest:List (Nat×Value)}{n:Nat}(hp:place i=some (off,n))(hn:v.cells.size=n)(hb:off+n≤cells.size) :
  Instr.fill place cells ((i,v)::rest)=Instr.fill place (cells.toList.take off++v.cells.toList++cells.toList.drop (off+n)).toArray rest:=by
 have:v.cells.zipIdx.foldl (fun cs (p:Value×Nat)=>cs.setIfInBounds (off+p.2) p.1) cells=(cells.toList.take off++v.cells.toList++cells.toList.drop (off+n)).toArray:=by
  apply Array.ext'
  have:=qnu off v.cells.toList 0 cells (by simp;omega)
  rw[← Array.foldl_toList]
  simp only[Array.toList_zipIdx]
  rw[this]
  simp[hn]
 have hcond:¬ (v.cells.size≠n∨off+v.cells.size>cells.size):=by omega
 simp only[Instr.fill,hp]
 rw[if_neg (by simp;omega)]
 exact congrArg (fun c=>Instr.fill place c rest) this
theorem qgp{fs:List Field}{ev:TypeId→Operand→Option V}{el:Operand→Value}{places:List (Nat×Nat)}(hpl:∀(i:Nat) fd,fs[i]? = some fd→places[i]? = some (fd.offset,P.cellsOf fd.type))
    (hev:∀ ty y v,ev ty y=some v→VR S w g v (el y)) :
    ∀(parts:List (Nat×Operand)) (cells:List V0) (us:List Value) (res:List V0),Cs S w g cells us →
      parts.foldl (fun(acc:Option (List V0)) (p:Nat×Operand)=>acc.bind fun cells =>
          (fs[p.1]?).bind fun fd=>(ev fd.type p.2).bind fun v =>
            if v.ok=true∧v.cells.length=P.cellsOf fd.type∧fd.offset+v.cells.length≤cells.length
              then some (cells.take fd.offset++v.cells++cells.drop (fd.offset+v.cells.length)) else none) (some cells)=some res →
      ∃ us',Instr.fill (places[·]?) us.toArray (parts.map fun p=>(p.1,el p.2))=some us'.toArray∧Cs S w g res us'
  | [],cells,us,res,hc,h=>by
      obtain rfl:=Option.some.inj h
      exact⟨us,rfl,hc⟩
  | p::parts,cells,us,res,hc,h=>by
      have hnone:∀(l:List (Nat×Operand)),l.foldl (fun(acc:Option (List V0)) (p:Nat×Operand)=>acc.bind fun cells =>
          (fs[p.1]?).bind fun fd=>(ev fd.type p.2).bind fun v =>
            if v.ok=true∧v.cells.length=P.cellsOf fd.type∧fd.offset+v.cells.length≤cells.length
              then some (cells.take fd.offset++v.cells++cells.drop (fd.offset+v.cells.length)) else none) none=none:=by
        intro l
        induction l with
        | nil=>rfl
        | cons a l ih=>exact ih
      rw[List.foldl_cons] at h
      simp only[Option.bind_some] at h
      cases hfd:fs[p.1]? with
      | none=>rw[hfd,Option.bind_none,hnone] at h;cases h
      | some fd =>
        rw[hfd,Option.bind_some] at h
        cases hv:ev fd.type p.2 with
        | none=>rw[hv,Option.bind_none,hnone] at h;cases h
        | some v =>
          rw[hv,Option.bind_some] at h
          split at h
          · rename_i hcond
            obtain⟨hok,hlen,hle⟩:=hcond
            have hvr:=(hev _ _ _ hv).cells hok
            have hul:=hvr.len
            have hcl:=hc.len
            obtain⟨us',h1,h2⟩:=qgp hpl hev parts _ (us.take fd.offset++(el p.2).cells.toList++us.drop (fd.offset+P.cellsOf fd.type)) res
              (by rw[hlen];exact((hc.take _).append hvr).append (hc.drop _)) h
            refine⟨us',?_,h2⟩
            rw [List.map_cons, qlD       (hpl _ _ hfd) (by have : (el p.2).cells.size = (el p.2).cells.toList.length := by simp
                                                           omega) (by simp;omega)]
            exact h1
          · rw[hnone] at h;cases h
theorem qlM{n:Nat}{t:TypeId}{u:Ty}(h:qoe P n t=some u):∃ d,P.underlying t=some d:=by
 cases n with
 | zero=>simp[qoe] at h
 | succ n =>
  unfold qoe at h
  cases hu:P.underlying t with
  | none=>rw[hu] at h;cases h
  | some d=>exact⟨d,rfl⟩
theorem qhQ{n:Nat}:∀ {fs:List Field} {c:Ty},fs.foldr (fun f acc=>acc.bind fun c=>(qoe P n f.type).map fun u=>qpL u c) (some .nil)=some c →
    fs.mapM (fun f=>(P.info? f.type).map fun i=>(f.offset,i.size))=some (fs.map fun f=>(f.offset,P.cellsOf f.type))
  | [],_,_=>rfl
  | f::fs,c,h=>by
      rw[List.foldr_cons] at h
      obtain⟨c',h1,h2⟩:=Option.bind_eq_some_iff.1 h
      obtain⟨u,h3,_⟩:=Option.map_eq_some_iff.1 h2
      obtain⟨d,hd⟩:=qlM h3
      obtain⟨i,hi,hc⟩:=qc8 hd
      rw[List.mapM_cons,qhQ h1,hi,List.map_cons,hc]
      rfl
theorem qkw{t:TypeId}{parts:Array (Nat×Operand)}{fr:List V}{el:Operand→Value}{K:V→Option ρ}{r:ρ}
  (hev:∀ ty y v,opd P fr ty y=some v→VR S w g v (el y)) (h:qkh P t parts.toList fr K=some r) :
  ∃ u v,(∀ w2,(Instr.build t (parts.map fun(i,x)=>(i,el x))).run P w2=.ok u w2)∧VR S w g v u∧K v=some r:=by
 unfold qkh at h
 split at h
 ·rename_i fs inf u hu hi ht
  split at h
  ·rename_i z hz
   split at h
   ·rename_i hzo
    simp only at h
    obtain⟨cells,hc,hk⟩:=Option.bind_eq_some_iff.1 h
    have ht':=ht
    unfold qoe at ht'
    rw[hu] at ht'
    simp only at ht'
    obtain⟨c,hc2,_⟩:=Option.map_eq_some_iff.1 ht'
    have hpl:=qhQ hc2
    have hc3:parts.toList.foldl (fun(acc:Option (List V0)) (p:Nat×Operand)=>acc.bind fun cells =>
     (fs.toList[p.1]?).bind fun fd=>(opd P fr fd.type p.2).bind fun v =>
      if v.ok=true∧v.cells.length=P.cellsOf fd.type∧fd.offset+v.cells.length≤cells.length
       then some (cells.take fd.offset++v.cells++cells.drop (fd.offset+v.cells.length)) else none) (some (qbf u))=some cells:=by
     simpa using hc
    obtain⟨us',h1,h2⟩:=qgp (P:=P) (fs:=fs.toList) (places:=fs.toList.map fun f=>(f.offset,P.cellsOf f.type)) (ev:=opd P fr) (el:=el)
     (fun i fd hfd=>by rw[List.getElem?_map,hfd];rfl) hev parts.toList (qbf u) z.cells.toList cells (qcX hzo) hc3
    refine⟨.agg us'.toArray,.agg cells,fun w2=>?_,⟨us',rfl,h2⟩,hk⟩
    refine run_build w2 t _ _ ?_
    unfold Program.built
    rw[hi,hu]
    simp only[hz,hpl]
    have e:(parts.map fun(p:Nat×Operand)=>(p.1,el p.2)).toList=parts.toList.map fun p=>(p.1,el p.2):=by simp
    have e2:(fun x:Nat=>(fs.toList.map fun f=>(f.offset,P.cellsOf f.type)).toArray[x]?)=fun x:Nat=>(fs.toList.map fun f=>(f.offset,P.cellsOf f.type))[x]?:=by
     funext x;simp
    rw[show(parts.map fun(x:Nat×Operand)=>match x with | (i,x)=>(i,el x)).toList=parts.toList.map fun p=>(p.1,el p.2) from e,e2]
    exact h1
   ·cases h
  ·cases h
 ·cases h
end
end Ve
namespace Ve
open Go
section
variable {S S':qab} {w w':World} {g g':Nat→Value} {C:Ctx} {F F':Nat→qab} {st:St} {tm:Array Value} {P:Program} {ρ:Type}
def qcM(P:Program)(o:Oper)(a:Act)(C:Ctx)(S:qab)(g:Nat→Value)(F:Nat→qab)(st:St)(w:World)(K:V→St→Option ρ)(r:ρ):Prop :=
 ∃ u v st' S' F',(∀ w2,qpj S F st (qbE P st o) w w2→(execOp a.eval o).run P w2=.ok (.value u) w2)∧Sim C S' g F' st' a.tmps w∧VR S' w g v u∧K v st'=some r ∧
  Moved S F st w S' F' st' w []
theorem qcM.pure{o:Oper}{a:Act}{K:V→St→Option ρ}{r:ρ}(hs:Sim C S g F st a.tmps w)
  (h:∃ u v,(∀ w2,(execOp a.eval o).run P w2=.ok (.value u) w2)∧VR S w g v u∧K v st=some r):qcM P o a C S g F st w K r:=by
 obtain⟨u,v,h1,h2,h3⟩:=h
 exact⟨u,v,st,S,F,fun w2 _=>h1 w2,hs,h2,h3,Moved.refl _⟩
theorem ql3.get:∀ {vs:List (Bool×List V0)} {us:List Value},ql3 S w g vs us→∀ {i:Nat} {p:Bool×List V0},vs[i]? = some p→∃ u,us[i]? = some u∧GrR S w g p.1 p.2 u
 | [],_,_,i,p,h=>by simp at h
 | q::vs,_,⟨u,us',rfl,h1,h2⟩,0,p,h=>by simp at h;subst h;exact⟨u,rfl,h1⟩
 | q::vs,_,⟨u,us',rfl,h1,h2⟩,i+1,p,h=>by simp at h;simpa using ql3.get h2 h
theorem GrR.cellsV{a:Bool}{cs:List V0}{v:V}{u:Value}(h:GrR S w g a cs u)(hc:cellsV a cs=some v):VR S w g v u:=by
 unfold Ve.cellsV at hc
 cases a with
 | true=>obtain rfl:=Option.some.inj hc;exact h
 | false =>
  simp only[Bool.false_eq_true,if_false] at hc
  cases cs with
  | nil=>cases hc
  | cons c cs =>
   cases cs with
   | cons=>cases hc
   | nil =>
    obtain rfl:=Option.some.inj hc
    obtain⟨u',us',e,h1,h2⟩:=h
    cases h2
    obtain rfl:u=u':=by simpa using e
    exact h1
def qfc(S:qab)(w:World)(g:Nat→Value):List V→List Value→Prop
 | [],us=>us=[]
 | v::vs,us=>∃ u us',us=u::us'∧VR S w g v u∧qfc S w g vs us'
theorem qdG(hs:Sim C S g F st tm w){a:Act}(ha:a.tmps=tm):∀ {xs:List Operand} {ts:List TypeId} {vs:List V},qls P st.fr xs ts=some vs→qfc S w g vs (xs.map a.eval)
  | [],ts,vs,h=>by obtain rfl:=Option.some.inj h;rfl
  | x::xs,ts,vs,h=>by
      unfold qls at h
      obtain⟨v,hv,h⟩:=Option.bind_eq_some_iff.1 h
      obtain⟨vs',hvs,rfl⟩:=Option.map_eq_some_iff.1 h
      exact⟨_,_,rfl,qcI hs ha hv,qdG hs ha hvs⟩
theorem qgu{E:Env}{R:Run}{pol:Pol}{o:Oper}{a:Act}{K:V→St→Option ρ}{r:ρ}(hs:Sim C S g F st a.tmps w)(hr:qaL o=true)(hto:qcT pol o=false)
    (h:qpP E R pol o st K=some r):qcM E.P o a C S g F st w K r:=by
  have hev:∀ ty y v,opd E.P st.fr ty y=some v→VR S w g v (a.eval y):=fun ty y v hv=>qcI hs rfl hv
  obtain⟨dst,op,type,pos,after,guard⟩:=o
  cases op with
  | move x =>
    obtain⟨v,hv,h⟩:=Option.bind_eq_some_iff.1 h
    exact qcM.pure hs ⟨_,v,fun w2=>rfl,hev _ _ _ hv,h⟩
  | assign x =>
    obtain⟨v,hv,h⟩:=Option.bind_eq_some_iff.1 h
    exact qcM.pure hs ⟨_,v,fun w2=>rfl,hev _ _ _ hv,h⟩
  | pick c x y =>
    obtain⟨vc,hvc,h⟩:=Option.bind_eq_some_iff.1 h
    split at h
    · rename_i t ht
      obtain⟨va,hva,h⟩:=Option.bind_eq_some_iff.1 h
      obtain⟨vb,hvb,h⟩:=Option.bind_eq_some_iff.1 h
      have hc:=V.bool_sound ht (hev _ _ _ hvc)
      cases t with
      | true=>exact qcM.pure hs ⟨_,va,fun w2=>by simp[execOp,hc,asBool],hev _ _ _ hva,h⟩
      | false=>exact qcM.pure hs ⟨_,vb,fun w2=>by simp[execOp,hc,asBool],hev _ _ _ hvb,h⟩
    · cases h
  | binOp op xt x y q =>
    obtain⟨vx,hvx,h⟩:=Option.bind_eq_some_iff.1 h
    obtain⟨vy,hvy,h⟩:=Option.bind_eq_some_iff.1 h
    have hx:=hev _ _ _ hvx
    have hy:=hev _ _ _ hvy
    have fin:(∃ u v,K v st=some r∧VR S w g v u∧∀ w2,(do eqGuard op xt x y (a.eval x) (a.eval y);Go.binOp op xt (a.eval x) (a.eval y):Sem Value).run E.P w2=.ok u w2) →
        qcM E.P ⟨dst,.binOp op xt x y q,type,pos,after,guard⟩ a C S g F st w K r:=by
      rintro⟨u,v,h1,h2,h3⟩
      refine qcM.pure hs ⟨u,v,fun w2=>?_,h2,h1⟩
      have:=h3 w2
      simp only[execOp]
      rw[Sem.run_bind,this]
      rfl
    split at h
    · split at h
      · split at h
        · obtain⟨e,hu⟩:∃ e,E.P.underlying xt=some (.slice e):=⟨_,by assumption⟩
          obtain⟨A,n,c,hX,hk⟩:=qhp hs h hx
          refine fin ⟨.bool A.isNone,vB A.isNone,hk,rfl,fun w2=>?_⟩
          rw[show a.eval (.const (.slice none 0 0))=.slice none 0 0 from rfl,hX]
          have h7:=qfh hu A n c w2
          simp[eqGuard,Go.binOp,h7]
        · obtain⟨e,hu⟩:∃ e,E.P.underlying xt=some (.slice e):=⟨_,by assumption⟩
          obtain⟨A,n,c,hX,hk⟩:=qhp hs h hx
          refine fin ⟨.bool (!A.isNone),vB (!A.isNone),hk,rfl,fun w2=>?_⟩
          rw[show a.eval (.const (.slice none 0 0))=.slice none 0 0 from rfl,hX]
          have h7:=qfh hu A n c w2
          simp[eqGuard,Go.binOp,h7]
        · cases h
      · cases h
    · split at h
      · split at h
        · rename_i hu
          exact fin (qie h hx hy fun _ _=>hu)
        · cases h
      · rename_i hnb
        exact fin (qie h hx hy fun b hb=>by rw[hnb] at hb;cases hb)
  | unOp op xt x =>
    obtain⟨vx,hvx,h⟩:=Option.bind_eq_some_iff.1 h
    obtain⟨u,v,h1,h2,h3⟩:=qof h (hev _ _ _ hvx)
    exact qcM.pure hs ⟨u,v,fun w2=>by simp only[execOp];rw[Sem.run_bind,h1];rfl,h2,h3⟩
  | extract x i =>
    obtain⟨vx,hvx,h⟩:=Option.bind_eq_some_iff.1 h
    split at h
    · obtain⟨p,hp,h⟩:=Option.bind_eq_some_iff.1 h
      obtain⟨v,hv,h⟩:=Option.bind_eq_some_iff.1 h
      obtain⟨us,he,ht⟩:=hev _ _ _ hvx
      obtain⟨u,hu,hg⟩:=ht.get hp
      exact qcM.pure hs ⟨u,v,fun w2=>by simp[execOp,he,Instr.extract,hu],hg.cellsV hv,h⟩
    · cases h
  | nilCheck x =>
    obtain⟨vx,hvx,h⟩:=Option.bind_eq_some_iff.1 h
    have hx:=hev _ _ _ hvx
    split at h
    · have hx':=hx
      obtain⟨b,o,us,he,_⟩:=hx'
      exact qcM.pure hs ⟨_,_,fun w2=>by simp only[execOp,he];rfl,he ▸ hx,h⟩
    · have hx':=hx
      obtain⟨b,_,he⟩:=hx'
      exact qcM.pure hs ⟨_,_,fun w2=>by simp only[execOp,he];rfl,he ▸ hx,h⟩
    · have hx':=hx
      obtain⟨b,_,_,_,_,he⟩:=hx'
      exact qcM.pure hs ⟨_,_,fun w2=>by simp only[execOp,he];rfl,he ▸ hx,h⟩
    · cases h
  | fieldAddr s x f =>
    obtain⟨vx,hvx,h⟩:=Option.bind_eq_some_iff.1 h
    obtain⟨u,v,h1,h2,h3⟩:=qfS h (hev _ _ _ hvx)
    exact qcM.pure hs ⟨u,v,fun w2=>by simp only[execOp];rw[Sem.run_bind,h1];rfl,h2,h3⟩
  | field s x f =>
    obtain⟨vx,hvx,h⟩:=Option.bind_eq_some_iff.1 h
    obtain⟨u,v,h1,h2,h3⟩:=qka h (hev _ _ _ hvx)
    exact qcM.pure hs ⟨u,v,fun w2=>by simp only[execOp];rw[Sem.run_bind,h1];rfl,h2,h3⟩
  | indexAddr t x i =>
    have h':(match qhV E.P t with
      | some m=>(opd E.P st.fr type x).bind fun vx=>(opd E.P st.fr type i).bind fun vi=>qdA m vx vi st fun v=>K v st
      | none=>none)=some r:=h
    split at h'
    · rename_i m hm
      obtain⟨vx,hvx,h'⟩:=Option.bind_eq_some_iff.1 h'
      obtain⟨vi,hvi,h'⟩:=Option.bind_eq_some_iff.1 h'
      obtain⟨u,v,h1,h2,h3⟩:=qf1 hs hm h' (hev _ _ _ hvx) (hev _ _ _ hvi)
      exact qcM.pure hs ⟨u,v,fun w2=>by simp only[execOp];rw[Sem.run_bind,h1];rfl,h2,h3⟩
    · cases h'
  | index t x i =>
    have h':(match E.P.underlying t with
      | some .string=>(opd E.P st.fr type x).bind fun vx=>(opd E.P st.fr type i).bind fun vi=>qku vx vi fun v=>K v st
      | _=>none)=some r:=h
    split at h'
    · rename_i hu
      obtain⟨vx,hvx,h'⟩:=Option.bind_eq_some_iff.1 h'
      obtain⟨vi,hvi,h'⟩:=Option.bind_eq_some_iff.1 h'
      obtain⟨u,v,h1,h2,h3⟩:=qkj hu h' (hev _ _ _ hvx) (hev _ _ _ hvi)
      exact qcM.pure hs ⟨u,v,fun w2=>by simp only[execOp];rw[Sem.run_bind,h1];rfl,h2,h3⟩
    · cases h'
  | slice t x lo hi mx =>
    obtain⟨vx,hvx,h⟩:=Option.bind_eq_some_iff.1 h
    obtain⟨u,v,h1,h2,h3⟩:=qkb (el:=a.eval) hs (hev type) h (hev _ _ _ hvx)
    exact qcM.pure hs ⟨u,v,fun w2=>by simp only[execOp];rw[Sem.run_bind,h1];rfl,h2,h3⟩
  | load t x =>
    obtain⟨vx,hvx,h⟩:=Option.bind_eq_some_iff.1 h
    have hlk:(dst.bind fun d=>pol.adopt.lookup d)=none:=by simpa [qcT] using hto
    simp only[hlk] at h
    obtain⟨u,v,st',S',F',h1,h2,h3,h4,h5⟩:=qll hs h (hev _ _ _ hvx)
    refine⟨u,v,st',S',F',fun w2 hw2=>?_,h2,h3,h4,h5⟩
    have e:qhX vx=qbE E.P st ⟨dst,.load t x,type,pos,after,guard⟩:=by
      unfold qbE qhX
      simp only[hvx]
      cases vx with
      | c v0=>cases v0<;>rfl
      | _=>rfl
    simp only[execOp]
    rw[Sem.run_bind,h1 w2 (e ▸ hw2)]
    rfl
  | build t parts =>
    have h':qkh E.P t parts.toList st.fr (fun v=>K v st)=some r:=h
    obtain⟨u,v,h1,h2,h3⟩:=qkw (el:=a.eval) hev h'
    exact qcM.pure hs ⟨u,v,fun w2=>by simp only[execOp];rw[Sem.run_bind,h1];rfl,h2,h3⟩
  | call c =>
    obtain⟨vs,hvs,h⟩:=Option.bind_eq_some_iff.1 h
    cases hc:c.callee with
    | builtin b =>
      rw[hc] at h
      cases b<;>simp[qaL,hc] at hr
      rcases vs with _ | ⟨x,_ | ⟨y,ys⟩⟩
      · change none=some r at h;cases h
      · change ((c.argTypes[0]?).bind fun t=>qqe E.P t x st fun v=>K v st)=some r at h
        obtain⟨t,ht,h⟩:=Option.bind_eq_some_iff.1 h
        have hargs:=qdG hs (a:=a) rfl hvs
        obtain⟨X,us',he,hX,hn⟩:=hargs
        cases hn
        obtain⟨u,v,h1,h2,h3⟩:=qmz (ty:=type) hs h hX c.argTypes ht
        have he':c.args.map a.eval=#[X]:=by
          apply Array.ext'
          simpa using he
        refine qcM.pure hs ⟨u,v,fun w2=>?_,h2,h3⟩
        simp only[execOp,resolve,hc,he',Sem.run_bind,Sem.run_pure,Result.andThen_ok,invoke,Go.builtin,h1]
      · change none=some r at h;cases h
    | _=>simp[qaL,hc] at hr
  | _=>simp[qaL] at hr
end
end Ve
namespace Ve
open Go
section
variable {S S':qab} {w w':World} {g g':Nat→Value} {C:Ctx} {F F':Nat→qab} {st:St} {tm:Array Value} {P:Program} {ρ:Type}
def qb2(P:Program)(o:Oper)(a:Act)(C:Ctx)(S:qab)(g:Nat→Value)(F:Nat→qab)(st:St)(w:World)(K:V→St→Option ρ)(r:ρ)(M:List Nat):Prop :=
 ∀(next:Act→World→Prop) (Q:Exit→Act→World→Prop),
  (∀ u v st' S' g' F' w',Sim C S' g' F' st' a.tmps w'→VR S' w' g' v u→K v st'=some r→Moved S F st w S' F' st' w' M→next (a.put o.dst u) w')→o.wp P a w next Q
theorem qb2.value{o:Oper}{a:Act}{K:V→St→Option ρ}{r:ρ}{M:List Nat}
  (h:∃ u v st' S' g' F' w',(execOp a.eval o).run P w=.ok (.value u) w'∧Sim C S' g' F' st' a.tmps w'∧VR S' w' g' v u∧K v st'=some r∧Moved S F st w S' F' st' w' M) :
  qb2 P o a C S g F st w K r M:=by
 obtain⟨u,v,st',S',g',F',w',h1,h2,h3,h4,h5⟩:=h
 intro next Q hn
 unfold Oper.wp
 rw[h1]
 exact hn u v st' S' g' F' w' h2 h3 h4 h5
theorem qb2.skip{o:Oper}{a:Act}{K:V→St→Option ρ}{r:ρ}{M:List Nat}
  (h:∃ v st' S' g' F' w',(execOp a.eval o).run P w=.ok .skip w'∧Sim C S' g' F' st' a.tmps w'∧VR S' w' g' v Go.undef∧K v st'=some r∧Moved S F st w S' F' st' w' M) :
  qb2 P o a C S g F st w K r M:=by
 obtain⟨v,st',S',g',F',w',h1,h2,h3,h4,h5⟩:=h
 intro next Q hn
 unfold Oper.wp
 rw[h1]
 exact hn _ v st' S' g' F' w' h2 h3 h4 h5
theorem Moved.weaken{M M':List Nat}{st':St}(h:Moved S F st w S' F' st' w' M)(hM:∀ s∈M,s∈M'):Moved S F st w S' F' st' w' M' where
 mS:=h.mS
 keep b hb hk:=h.keep b hb fun s hs=>hk s (hM s hs)
 keepS:=h.keepS
 mF s' o' ho hf b hb:=by
  rcases h.mF s' o' ho hf b hb with h1 | h1 | ⟨s,hs,h1⟩
  ·exact .inl h1
  ·exact .inr (.inl h1)
  ·exact .inr (.inr ⟨s,hM s hs,h1⟩)
 size:=h.size
theorem qcM.does{o:Oper}{a:Act}{K:V→St→Option ρ}{r:ρ}(h:qcM P o a C S g F st w K r)(M:List Nat):qb2 P o a C S g F st w K r M:=by
 obtain⟨u,v,st',S',F',h1,h2,h3,h4,h5⟩:=h
 exact qb2.value ⟨u,v,st',S',g,F',w,h1 w fun _ _=>rfl,h2,h3,h4,h5.weaken fun _ h=>by cases h⟩
theorem Sim.alloc(h:Sim C S g F st tm w)(s:Nat)(o:Obj)(v:Value)(x:Go.Obj)(hf:o.frozen=false)(hx:o.fixed=false)
  (ho:ObR S (w.alloc x) (upd g s v) (upd F s fun b=>b=w.heap.size) s o) :
  Sim C S (upd g s v) (upd F s fun b=>b=w.heap.size) ((st.kill s).setOb s (some o)) tm (w.alloc x) ∧
  Moved S F st w S (upd F s fun b=>b=w.heap.size) ((st.kill s).setOb s (some o)) (w.alloc x) []:=by
 have hsz:w.heap.size≤(w.alloc x).heap.size:=by show _≤(w.heap.push x).size;simp
 have hold:∀ b,b<w.heap.size→(w.alloc x).heap[b]? = w.heap[b]?:=fun b hb=>heap_alloc_old w x b hb
 refine⟨h.new s (some o) v _ hsz (fun b hb=>hold b (h.szS b hb)) (fun s' o' _ ho' b hb=>hold b (h.szF s' o' ho' b hb)) (fun b hb _=>hold b (Nat.lt_of_lt_of_le hb h.mono)) ?_,?_⟩
 ·intro o' he
  obtain rfl:=Option.some.inj he
  refine⟨hf,hx,ho,fun b hb=>?_,fun s' o'' hne ho'' _ b hb hb'=>?_⟩
  ·subst hb
   refine⟨fun hS=>absurd (h.szS _ hS) (Nat.lt_irrefl _),C.base _ h.mono,?_⟩
   show _<(w.heap.push x).size
   simp
  ·subst hb
   exact absurd (h.szF s' o'' ho'' _ hb') (Nat.lt_irrefl _)
 ·refine⟨fun _ h=>h,fun b hb _=>hold b hb,fun b hb=>hold b (h.szS b hb),fun s' o' ho' hf' b hb=>?_,hsz⟩
  by_cases hs:s'=s
  ·subst hs;rw[qaj] at hb;subst hb;exact .inl (Nat.le_refl _)
  ·rw[qav _ _ hs] at hb
   rw[St.setOb,qam _ _ hs] at ho'
   obtain⟨o'',h1,rfl⟩:=qaZ ho'
   rw[Obj.frozen_kill] at hf'
   exact .inr (.inl ⟨o'',h1,hf',hb⟩)
theorem qjN{E:Env}{R:Run}{pol:Pol}{o:Oper}{t:TypeId}{a:Act}{K:V→St→Option ρ}{r:ρ}(hs:Sim C S g F st a.tmps w)(ho:o.op=.alloc t)
  (h:qmf P t o.dst st K=some r):qb2 P o a C S g F st w K r []:=by
 unfold qmf at h
 split at h
 ·rename_i u i site hu hi hd
  split at h
  ·rename_i z hz
   split at h
   ·rename_i hzo
    have hob:ObR S (w.alloc (.cells z.cells t)) (upd g site (.pointer (some ⟨w.heap.size,0,none⟩))) (upd F site fun b=>b=w.heap.size) site (.box (qbf u) false false) :=
     ⟨w.heap.size,z.cells,t,qaj _ _ _,by rw[qaj],heap_alloc_new w _,qcX hzo⟩
    obtain⟨h1,h2⟩:=hs.alloc site (.box (qbf u) false false) (.pointer (some ⟨w.heap.size,0,none⟩)) (.cells z.cells t) rfl rfl hob
    refine qb2.value ⟨.pointer (some ⟨w.heap.size,0,none⟩),.c (.box site 0),_,S,_,_,_,?_,h1,⟨w.heap.size,qaj _ _ _,rfl⟩,h,h2⟩
    simp only[execOp,ho,Instr.alloc,zeroValue,typeInfo,Sem.run_bind,run_program,Result.andThen_ok,hi,hz,Sem.run_pure,newVar,newRow,run_newObj]
    rfl
   ·cases h
  ·cases h
 ·cases h
theorem VR.killUpd(s:Nat)(x:Value){v:V}{u:Value}(h:VR S w g v u):VR S w (upd g s x) (v.kill s) u :=
 VR.map (f:=V0.kill s) (f':=V.kill s) (fun _=>rfl) (fun _=>rfl) (fun _=>rfl) (fun _ _ h=>h.killUpd s x) h
theorem ql4{o:Oper}{t:TypeId}{x:Operand}{vx:V}{a:Act}{K:V→St→Option ρ}{r:ρ}(hs:Sim C S g F st a.tmps w)(ho:o.op=.box t x)
  (hv:VR S w g vx (a.eval x)) (hok:vx.ok=true) (h:qrr vx o.dst st K=some r):qb2 P o a C S g F st w K r []:=by
 unfold qrr at h
 split at h
 ·rename_i site hd
  have h':K (.c (.box site 0)) ((st.kill site).setOb site (some (.box ((vx.kill site).cells) false false)))=some r:=by
   cases vx with
   | tup=>cases h
   | c=>exact h
   | agg=>exact h
  have hcells:Cs S w (upd g site (.pointer (some ⟨w.heap.size,0,none⟩))) ((vx.kill site).cells) (a.eval x).cells.toList:=by
   have h0:=hv.cells hok
   have e:(vx.kill site).cells=vx.cells.map (·.kill site):=by
    cases vx<;>rfl
   rw[e]
   exact Cs.map (fun _ _ h=>h.killUpd site _) h0
  have hob:ObR S (w.alloc (.cells (a.eval x).cells t)) (upd g site (.pointer (some ⟨w.heap.size,0,none⟩))) (upd F site fun b=>b=w.heap.size) site (.box ((vx.kill site).cells) false false):=by
   refine⟨w.heap.size,(a.eval x).cells,t,qaj _ _ _,by rw[qaj],heap_alloc_new w _,?_⟩
   exact Cs.imp (p:=fun _ _=>True) (fun _ _ h=>h.mono (fun _ h=>h) fun b hb=>heap_alloc_old w _ b (hs.szS b hb)) hcells
  obtain⟨h1,h2⟩:=hs.alloc site (.box ((vx.kill site).cells) false false) (.pointer (some ⟨w.heap.size,0,none⟩)) (.cells (a.eval x).cells t) rfl rfl hob
  refine qb2.value ⟨.pointer (some ⟨w.heap.size,0,none⟩),.c (.box site 0),_,S,_,_,_,?_,h1,⟨w.heap.size,qaj _ _ _,rfl⟩,h',h2⟩
  simp only[execOp,ho,Instr.box,Sem.run_bind,Result.andThen_ok,Sem.run_pure,newVar,newRow,run_newObj]
  rfl
 ·cases h
end
end Ve
namespace Ve
open Go
section
variable {S S':qab} {w w':World} {g g':Nat→Value} {C:Ctx} {F F':Nat→qab} {st:St} {tm:Array Value} {P:Program} {ρ:Type}
theorem qdn{t:Ty}{x:t.T}{v:Value}(ht:t.sc=true)(hz:qga t=some x)(h:qcL (qrw t) v=true)(Fs:qab):DRp w t x [v] Fs:=by
 cases t with
 | int k =>
  obtain rfl:=Option.some.inj hz
  have:=qcb (S:=fun _=>False) (w:=w) (g:=fun _=>Go.undef) h
  exact this
 | bool =>
  obtain rfl:=Option.some.inj hz
  exact qcb (S:=fun _=>False) (w:=w) (g:=fun _=>Go.undef) h
 | str =>
  obtain rfl:=Option.some.inj hz
  exact qcb (S:=fun _=>False) (w:=w) (g:=fun _=>Go.undef) h
 | sl u =>
  obtain rfl:=Option.some.inj hz
  obtain⟨A,rfl⟩:=qcb (S:=fun _=>False) (w:=w) (g:=fun _=>Go.undef) h
  exact⟨A,0,rfl,⟨Nat.le_refl _,Nat.zero_le _⟩,.inl rfl⟩
 | ptr c=>simp[qga] at hz
 | lab c=>simp[qga] at hz
 | fn f c=>simp[qga] at hz
 | st c=>simp[Ty.sc] at ht
 | nil=>simp[Ty.sc] at ht
 | cons a b=>simp[Ty.sc] at ht
theorem qfG:∀ {t:Ty} {x:t.T} {vs:List Value},qga t=some x→qbT (qbf t) vs=true→∀ Fs:qab,DRp w t x vs Fs
  | .st c,x,vs,hz,h,Fs=>qfG (t:=c) hz h Fs
  | .nil,x,vs,hz,h,Fs=>by
      cases vs with
      | nil=>rfl
      | cons=>simp[qbf,qbT] at h
  | .cons a b,x,vs,hz,h,Fs=>by
      unfold qga at hz
      split at hz
      · rename_i ha
        obtain⟨x1,h1,hz⟩:=Option.bind_eq_some_iff.1 hz
        obtain⟨x2,h2,rfl⟩:=Option.map_eq_some_iff.1 hz
        cases vs with
        | nil=>simp[qbf,qbT] at h
        | cons v vs =>
          simp only[qbf,qbT,Bool.and_eq_true] at h
          exact⟨[v],vs,fun _=>False,fun _=>False,rfl,fun _ h=>h.elim,fun _ h=>h.elim,fun _ h=>h.elim,
            qdn ha h1 h.1 _,qfG h2 h.2 _⟩
      · cases hz
  | .int k,x,vs,hz,h,Fs=>by
      rcases vs with _ | ⟨v,_ | ⟨v',vs⟩⟩<;>simp[qbf,qbT] at h
      exact qdn rfl hz h Fs
  | .bool,x,vs,hz,h,Fs=>by
      rcases vs with _ | ⟨v,_ | ⟨v',vs⟩⟩<;>simp[qbf,qbT] at h
      exact qdn rfl hz h Fs
  | .str,x,vs,hz,h,Fs=>by
      rcases vs with _ | ⟨v,_ | ⟨v',vs⟩⟩<;>simp[qbf,qbT] at h
      exact qdn rfl hz h Fs
  | .sl u,x,vs,hz,h,Fs=>by
      rcases vs with _ | ⟨v,_ | ⟨v',vs⟩⟩<;>simp[qbf,qbT] at h
      exact qdn rfl hz h Fs
  | .ptr c,x,vs,hz,h,Fs=>by simp[qga] at hz
  | .lab c,x,vs,hz,h,Fs=>by simp[qga] at hz
  | .fn f c,x,vs,hz,h,Fs=>by simp[qga] at hz
theorem qdF{t e:TypeId}{u:Ty}(h:qfI P t=some (e,u)) :
  P.underlying t=some (.slice e)∧qoe P 8 e=some u∧P.cellsOf e=u.size∧0<u.size∧0<P.bytesOf e∧∃ d,P.underlying e=some d:=by
 unfold qfI at h
 split at h
 ·rename_i e' hu
  obtain⟨u',hu',h⟩:=Option.bind_eq_some_iff.1 h
  split at h
  ·rename_i hc
   obtain⟨rfl,rfl⟩:e'=e∧u'=u:=by simpa using h
   exact⟨hu,hu',hc.1,hc.2.1,hc.2.2.1,qlM hu'⟩
  ·cases h
 ·cases h
theorem qjw{t e:TypeId}{u:Ty}{lb:Bool}(h:qqg P t lb=some (e,u)) :
  P.underlying t=some (.slice e)∧True∧P.cellsOf e=u.size∧0<u.size∧0<P.bytesOf e∧∃ d,P.underlying e=some d:=by
 obtain⟨⟨e',u'⟩,hq,h⟩:=Option.bind_eq_some_iff.1 h
 obtain⟨h1,_,h3,h4,h5,h6⟩:=qdF hq
 cases lb with
 | true =>
  simp only[cond_true] at h
  split at h
  ·rename_i h1'
   obtain⟨rfl,rfl⟩:e'=e∧Ty.lab u'=u:=by simpa using h
   exact⟨h1,trivial,h3.trans h1',Nat.zero_lt_one,h5,h6⟩
  ·cases h
 | false =>
  obtain⟨rfl,rfl⟩:e'=e∧u'=u:=by simpa using h
  exact⟨h1,trivial,h3,h4,h5,h6⟩
theorem qgI{t:TypeId}{i:TypeInfo}(h:P.info? t=some i):P.bytesOf t=i.bytes∧P.cellsOf t=i.size:=by
 simp[Program.bytesOf,Program.cellsOf,h]
theorem qim{t e:TypeId}{u:Ty}(h:qfI P t=some (e,u)) :
  ∃ i z,P.info? e=some i∧i.zero=some z∧z.cells.size=u.size∧i.size=u.size∧i.bytes=P.bytesOf e:=by
 unfold qfI at h
 split at h
 ·rename_i e' hu
  obtain⟨u',hu',h⟩:=Option.bind_eq_some_iff.1 h
  split at h
  ·rename_i hc
   obtain⟨rfl,rfl⟩:e'=e∧u'=u:=by simpa using h
   obtain⟨h1,h2,h3,h4⟩:=hc
   unfold qqI at h4
   cases hi:P.info? e' with
   | none=>rw[hi] at h4;simp at h4;omega
   | some i =>
    rw[hi] at h4
    cases hz:i.zero with
    | none=>simp only[hz] at h4;omega
    | some z =>
     simp only[hz] at h4
     obtain⟨hb1,hb2⟩:=qgI hi
     exact⟨i,z,rfl,hz,h4,by omega,by omega⟩
  ·cases h
 ·cases h
theorem qjj{t e:TypeId}{u:Ty}{lb:Bool}(h:qqg P t lb=some (e,u)) :
  ∃ i z,P.info? e=some i∧i.zero=some z∧z.cells.size=u.size∧i.size=u.size∧i.bytes=P.bytesOf e:=by
 obtain⟨⟨e',u'⟩,hq,h⟩:=Option.bind_eq_some_iff.1 h
 obtain⟨i,z,h1,h2,h3,h4,h5⟩:=qim hq
 cases lb with
 | true =>
  simp only[cond_true] at h
  split at h
  ·rename_i h1'
   obtain⟨rfl,rfl⟩:e'=e∧Ty.lab u'=u:=by simpa using h
   have h1':u'.size=1:=h1'
   exact⟨i,z,h1,h2,h3.trans h1',h4.trans h1',h5⟩
  ·cases h
 | false =>
  obtain⟨rfl,rfl⟩:e'=e∧u'=u:=by simpa using h
  exact⟨i,z,h1,h2,h3,h4,h5⟩
theorem qlk{n b:Nat}(hb:0<b)(h:n*b≤70368744177664):n≤maxLen∧n≤70368744177664:=by
 have h1:n≤n*b:=Nat.le_mul_of_pos_right n hb
 simp only[maxLen]
 omega
theorem qkf{z:Array Value}{n m i j:Nat}{u:Value}(hz:z.size=m)(hj:z.toList[j]? = some u)(hi:i<n):(madeCells z (n*m))[i*m+j]? = some u:=by
 obtain⟨hlt,hu⟩:=List.getElem?_eq_some_iff.1 hj
 have hjm:j<m:=by rw[← hz];simpa using hlt
 have hlt2:i*m+j<n*m:=by
  have:(i+1)*m≤n*m:=Nat.mul_le_mul_right m hi
  rw[Nat.add_mul] at this
  omega
 have hmod:(i*m+j)%m=j:=by
  rw[Nat.add_comm,Nat.add_mul_mod_self_right,Nat.mod_eq_of_lt hjm]
 unfold madeCells
 have hjz:j<z.size:=by simpa using hlt
 simp[hlt2,hz,hmod,← hu]
 rw[Array.getElem!_eq_getD,Array.getD,dif_pos hjz]
 rfl
theorem qmu{l c:Operand}{a:Act}{k:IntKind}{n:Int}(h:qdu l c=true)(hl:a.eval l=.int k n):∃ k',a.eval c=.int k' n:=by
 cases l with
 | tmp i =>
  cases c with
  | tmp j =>
   have:i=j:=by simpa [qdu] using h
   subst this
   exact⟨k,hl⟩
  | _=>simp[qdu] at h
 | const v =>
  cases v with
  | int k1 x =>
   cases c with
   | const v' =>
    cases v' with
    | int k2 y =>
     have:x=y:=by simpa [qdu] using h
     subst this
     have h1:a.eval (.const (.int k1 x))=.int k1 x:=rfl
     rw[h1] at hl
     obtain⟨_,rfl⟩:k1=k∧x=n:=by simpa using hl
     exact⟨k2,rfl⟩
    | _=>simp[qdu] at h
   | _=>simp[qdu] at h
  | _=>cases c<;>simp[qdu] at h
 | _=>cases c<;>simp[qdu] at h
theorem qf5{o:Oper}{t:TypeId}{l c:Operand}{vl:V}{a:Act}{K:V→St→Option ρ}{r:ρ}(hs:Sim C S g F st a.tmps w)(ho:o.op=.makeSlice t l c)
  (hv:VR S w g vl (a.eval l)) (h:qe4 P t l c vl o.dst st K=some r):qb2 P o a C S g F st w K r []:=by
 unfold qe4 at h
 split at h
 ·rename_i e u k n site he hn hd
  obtain⟨hu,_,hcells,hpos,hbpos,d,hde⟩:=qdF he
  split at h
  ·rename_i i hi
   split at h
   ·rename_i z hz
    split at h
    ·rename_i hcond
     obtain⟨hsame,hzo⟩:=hcond
     obtain⟨x,hx,h⟩:=Option.bind_eq_some_iff.1 h
     obtain⟨hc,h⟩:=qaQ h
     simp only[Bool.and_eq_true,decide_eq_true_eq] at hc
     have hl:=V.int_sound hn hv
     obtain⟨k',hcap⟩:=qmu hsame hl
     obtain⟨hb1,hb2⟩:=qgI hi
     obtain⟨m,rfl⟩:∃ m:Nat,n=m:=⟨n.toNat,by omega⟩
     have hmb:m*P.bytesOf e≤70368744177664:=by have:=hc.2;rw[← Int.natCast_mul] at this;omega
     obtain⟨hm1,hm2⟩:=qlk hbpos hmb
     have hrun:=run_make (P:=P) w t e i z hu hi hz k k' (m:Int) (m:Int) (by omega) (Int.le_refl _) (by rw[← hb1,Int.mul_comm];have:=hc.2;omega) (by omega)
     simp only[Int.toNat_natCast] at hrun h
     rw[← hb2,hcells] at hrun
     have hzl:z.cells.size=u.size:=by
      have:=(qfG (w:=w) hx hzo fun _=>False).len
      simpa using this
     have hob:ObR S (w.alloc (.cells (madeCells z.cells (m*u.size)) e)) (upd g site (.slice (some ⟨w.heap.size,0,none⟩) m m)) (upd F site fun b=>b=w.heap.size) site (.arr u (List.replicate m x) true false false):=by
      unfold ObR
      simp only[qaj]
      refine⟨some ⟨w.heap.size,0,none⟩,m,by rw[List.length_replicate],⟨by rw[List.length_replicate];exact Nat.le_refl _,hm1⟩,.inr ⟨w.heap.size,_,e,fun _ _=>False,rfl,rfl,heap_alloc_new w _,size_madeCells _ _,fun _ _ h=>h.elim,fun _ _ _ _ h=>h.elim,fun j y hj=>?_⟩⟩
      rw[List.getElem?_replicate] at hj
      split at hj
      ·rename_i hlt
       obtain rfl:=Option.some.inj hj
       exact⟨z.cells.toList,qfG hx hzo _,fun q v hq=>qkf hzl hq hlt⟩
      ·cases hj
     obtain⟨h1,h2⟩:=hs.alloc site _ (.slice (some ⟨w.heap.size,0,none⟩) m m) (.cells (madeCells z.cells (m*u.size)) e) rfl rfl hob
     refine qb2.value ⟨_,.c (.arr site),_,S,_,_,_,?_,h1,⟨(qaj _ _ _).symm,_,_,_,rfl⟩,h,h2⟩
     simp only[execOp,ho,hl,hcap,Sem.run_bind,hrun,Result.andThen_ok,Sem.run_pure]
    ·cases h
   ·cases h
  ·cases h
 ·cases h
end
end Ve
namespace Ve
open Go
section
variable {S S':qab} {w w':World} {g g':Nat→Value} {C:Ctx} {F F':Nat→qab} {st:St} {tm:Array Value} {P:Program} {ρ:Type}
theorem qcv{α:Type}(f:Nat→α)(i:Nat):upd f i (f i)=f:=by
 funext j
 unfold upd
 split
 ·rename_i h;rw[h]
 ·rfl
theorem Sim.store(hs:Sim C S g F st tm w){s:Nat}{o o':Obj}(ho:qad st.ob s=some o)(hof:o.frozen=false){b:Nat}(hb:F s b)(cs:Array Value)
  (hf:o'.frozen=false) (hx:o'.fixed=o.fixed) (hob:ObR S (w.setRow b cs) g F s o') :
  Sim C S g F (st.setOb s (some o')) tm (w.setRow b cs)∧Moved S F st w S F (st.setOb s (some o')) (w.setRow b cs) [s]:=by
 have hp:=hs.prv s o ho hof
 have hne:∀ b',S b'→b'≠b:=fun b' h' e=>(hp b hb).1 (e ▸ h')
 have hsz:(w.setRow b cs).heap.size=w.heap.size:=size_setRow w b cs
 have hset:=hs.set s o o' (F s) (w':=w.setRow b cs) ho (by rw[hsz];exact Nat.le_refl _) (fun b' h'=>setRow_other w b b' cs (hne b' h'))
  (fun s' p hn hp' b' h'=>setRow_other w b b' cs fun e=>by
   subst e
   cases hpf:p.frozen with
   | true=>exact hne _ (hs.frz s' p hp' hpf _ h') rfl
   | false=>exact hs.dis s' s p o hn hp' ho hpf hof _ h' hb)
  (fun b' _ hO=>setRow_other w b b' cs fun e=>hO (e ▸ (hp b hb).2)) hf (fun h'=>hs.fx s o ho (hx ▸ h')) (by rw[qcv];exact hob)
  (fun b' h'=>⟨(hp b' h').1,(hp b' h').2,by rw[hsz];exact hs.szF s o ho b' h'⟩)
  (fun s' p hn hp' hpf b' h' h''=>hs.dis s' s p o hn hp' ho hpf hof b' h'' h')
 rw[qcv] at hset
 refine⟨hset,fun _ h=>h,fun b' hb' hk=>setRow_other w b b' cs fun e=>hk s (by simp) o ho (e ▸ hb),fun b' h'=>setRow_other w b b' cs (hne b' h'),fun s' p hp' hpf b' h'=>?_,by rw[hsz];exact Nat.le_refl _⟩
 by_cases hss:s'=s
 ·subst hss;exact .inr (.inl ⟨o,ho,hof,h'⟩)
 ·rw[St.setOb,qam _ _ hss] at hp'
  exact .inr (.inl ⟨p,hp',hpf,h'⟩)
theorem qnN{v:Value}(h1:∀ us,v≠.agg us)(h2:∀ us,v≠.tuple us):v.oneCell'=true:=by
 cases v<;>simp_all [Value.oneCell']
theorem Cs.oneCells:∀ {cs:List V0} {us:List Value},Cs S w g cs us→cs.all V0.sc=true→∀ u∈us,u.oneCell'=true
  | [],_,h,_,u,hu=>by cases h;cases hu
  | c::cs,_,⟨u',us',rfl,h1,h2⟩,hs,u,hu=>by
      simp only[List.all_cons,Bool.and_eq_true] at hs
      rcases List.mem_cons.1 hu with rfl | hu
      · exact qnN (V0R.sc h1 hs.1).1 (V0R.sc h1 hs.1).2
      · exact Cs.oneCells h2 hs.2 u hu
theorem qc4{t:TypeId}{X:Value}{b off:Nat}{arr:Array Value}{e:TypeId}{d:TypeDesc}(hu:P.cellsOf t≠0∨P.underlying t=some d)(hh:w.heap[b]? = some (.cells arr e (0,0)))
  (hn:X.cells.toList.length=P.cellsOf t) (hfit:off+P.cellsOf t≤arr.size) (h1:∀ u∈X.cells.toList,u.oneCell'=true) :
  (storeVar t ⟨b,off,none⟩ X).run P w=.ok () (w.setRow b (arr.toList.take off++X.cells.toList++arr.toList.drop (off+P.cellsOf t)).toArray):=by
 have hst:=run_storeCells_at P b off e X.cells.toList 0 arr w hh (by rw[hn];simpa using hfit) h1
 simp only[Nat.add_zero] at hst
 have hs:(Go.sizeOf t).run P w=.ok (P.cellsOf t) w:=by
  rcases hu with hu | hu
  ·exact qiv hu w
  ·exact qb0 hu w
 have hc:X.cells.size=P.cellsOf t:=by simpa using hn
 unfold storeVar
 simp only[Sem.run_bind,hs,Result.andThen_ok,hc,ne_eq,not_true_eq_false,if_false]
 rw[← hn,← hst]
theorem qmj{o:Oper}{t:TypeId}{x y:Operand}{s off:Nat}{vy:V}{a:Act}{K:V→St→Option ρ}{r:ρ}(hs:Sim C S g F st a.tmps w)(ho:o.op=.store t x y)
  (hx:VR S w g (.c (.box s off)) (a.eval x)) (hy:VR S w g vy (a.eval y)) (h:qiq P t (.c (.box s off)) vy st (fun st=>K .undef st)=some r):qb2 P o a C S g F st w K r [s]:=by
 unfold qiq at h
 simp only at h
 split at h
 ·rename_i cells fx hob
  split at h
  ·rename_i hc
   obtain⟨h0,hl,hfit,hok,hsc⟩:=hc
   obtain⟨b,arr,e,hg,hF,hh,hcs⟩:=hs.ob s _ hob
   obtain⟨b',hg',hX⟩:=hx
   obtain rfl:b=b':=by rw[hg] at hg';simpa using hg'
   have hcy:=hy.cells hok
   have hlen:=hcy.len
   have hal:=hcs.len
   have hsz:arr.size=arr.toList.length:=by simp
   have hrun:=qc4 (P:=P) (t:=t) (X:=a.eval y) (d:=.bool) (.inl h0) hh (by rw[hlen,hl]) (off:=off) (by omega) (hcy.oneCells hsc)
   obtain⟨h1,h2⟩:=hs.store (o':=.box (cells.take off++vy.cells++cells.drop (off+P.cellsOf t)) false fx) hob rfl hF (arr.toList.take off++(a.eval y).cells.toList++arr.toList.drop (off+P.cellsOf t)).toArray rfl rfl
    ⟨b,_,e,hg,hF,setRow_heap w b arr _ e _ hh,by
     have:=((hcs.take off).append hcy).append (hcs.drop (off+P.cellsOf t))
     exact Cs.imp (p:=fun _ _=>True) (fun _ _ h=>h.mono (fun _ h=>h) fun b' h'=>setRow_other w b b' _ fun e=>(hs.prv s _ hob rfl b hF).1 (e ▸ h')) (by simpa using this)⟩
   refine qb2.skip ⟨.undef,_,S,g,F,_,?_,h1,rfl,h,h2⟩
   simp only[execOp,ho,hX,Instr.storeAt,Instr.sureAddr,Sem.run_bind,Sem.run_pure,Result.andThen_ok,hrun]
  ·cases h
 ·cases h
end
end Ve
namespace Ve
open Go
section
variable {S S':qab} {w w':World} {g g':Nat→Value} {C:Ctx} {F F':Nat→qab} {st:St} {tm:Array Value} {P:Program} {ρ:Type}
theorem Obj.freeze_frozen(o:Obj):o.freeze.frozen=true:=by cases o<;>rfl
theorem Obj.freeze_fixed(o:Obj):o.freeze.fixed=o.fixed:=by cases o<;>rfl
theorem ObR.freeze{s:Nat}{o:Obj}(h:ObR S w g F s o):ObR S w g F s o.freeze:=by cases o<;>exact h
def Frz(ob ob':List (Option Obj)):Prop:=∀ s,qad ob' s=qad ob s∨∃ o,qad ob s=some o∧qad ob' s=some o.freeze
theorem Frz.refl(ob:List (Option Obj)):Frz ob ob:=fun _=>.inl rfl
theorem Frz.trans{a b c:List (Option Obj)}(h1:Frz a b)(h2:Frz b c):Frz a c:=fun s=>by
 rcases h1 s with e1 | ⟨o,e1,e2⟩<;>rcases h2 s with e3 | ⟨o',e3,e4⟩
 ·exact .inl (e3.trans e1)
 ·exact .inr ⟨o',e1 ▸ e3,e4⟩
 ·exact .inr ⟨o,e1,e3.trans e2⟩
 ·rw[e2] at e3
  obtain rfl:=Option.some.inj e3
  exact .inr ⟨o,e1,by rw[e4];cases o<;>rfl⟩
theorem qbN(ob:List (Option Obj))(s s':Nat)(f:Obj→Obj):qad (ob.modify s (·.map f)) s'=if s'=s then(qad ob s').map f else qad ob s':=by
 unfold qad
 simp only[List.getD_eq_getElem?_getD,List.getElem?_modify]
 by_cases h:s'=s
 ·subst h
  cases ob[s']?<;>simp
 ·simp[h,Ne.symm h]
theorem Frz.modify(ob:List (Option Obj))(s:Nat):Frz ob (ob.modify s (·.map Obj.freeze)):=fun s'=>by
 rw[qbN]
 by_cases h:s'=s
 ·simp only[h,if_true]
  cases ho:qad ob s with
  | none=>exact .inl rfl
  | some o=>exact .inr ⟨o,rfl,rfl⟩
 ·simp only[h,if_false];exact .inl trivial
theorem Frz.foldl{f:List (Option Obj)→V0→List (Option Obj)}(hf:∀ ob v,Frz ob (f ob v)):∀(l:List V0) (ob:List (Option Obj)),Frz ob (l.foldl f ob)
 | [],ob=>Frz.refl ob
 | v::l,ob=>(hf ob v).trans (Frz.foldl hf l _)
theorem Frz.freezeN:∀(n:Nat) (ob:List (Option Obj)) (v:V0),Frz ob (freezeN n ob v)
 | 0,ob,v=>Frz.refl ob
 | n+1,ob,v=>by
  cases v with
  | arr s=>exact Frz.modify ob s
  | sub s _ _ _=>exact Frz.modify ob s
  | elt s _ _ _=>exact Frz.modify ob s
  | box s off =>
   simp only[Ve.freezeN]
   split
   ·exact(Frz.modify ob s).trans (Frz.foldl (Frz.freezeN n) _ _)
   ·exact Frz.refl ob
  | _=>exact Frz.refl ob
theorem Sim.frozen(h:Sim C S g F st tm w){ob':List (Option Obj)}(hf:Frz st.ob ob') :
  Sim C (fun b=>S b∨∃ s o o',qad st.ob s=some o∧qad ob' s=some o'∧o'.frozen=true∧F s b) g F { st with ob:=ob' } tm w:=by
 have back:∀ s o',qad ob' s=some o'→∃ o,qad st.ob s=some o∧(o'=o∨o'=o.freeze):=by
  intro s o' h'
  rcases hf s with e | ⟨o,e1,e2⟩
  ·exact⟨o',e ▸ h',.inl rfl⟩
  ·exact⟨o,e1,.inr (by rw[h'] at e2;exact Option.some.inj e2)⟩
 have backU:∀ s o',qad ob' s=some o'→o'.frozen=false→qad st.ob s=some o':=by
  intro s o' h' hfr
  obtain⟨o,h1,rfl | rfl⟩:=back s o' h'
  ·exact h1
  ·rw[Obj.freeze_frozen] at hfr;cases hfr
 have hS:∀ b,S b→(S b∨∃ s o o',qad st.ob s=some o∧qad ob' s=some o'∧o'.frozen=true∧F s b):=fun b h=>.inl h
 refine { size:=h.size,fr:=fun i v hv=>(h.fr i v hv).imp fun _ _ h'=>h'.mono hS fun _ _=>rfl,ob:=?_,prv:=?_,frz:=?_,dis:=?_,szF:=?_,szS:=?_,S0:=fun b hb=>.inl (h.S0 b hb),SO:=?_,keep:=h.keep,mono:=h.mono,kin:=h.kin,fx:=?_ }
 ·intro s o' h'
  obtain⟨o,h1,rfl | rfl⟩:=back s o' h'
  ·exact(h.ob s _ h1).mono hS (fun _ _=>rfl) fun _ _=>rfl
  ·exact((h.ob s _ h1).mono hS (fun _ _=>rfl) fun _ _=>rfl).freeze
 ·intro s o' h' hfr b hb
  have h1:=backU s o' h' hfr
  refine⟨fun hb'=>?_,(h.prv s o' h1 hfr b hb).2⟩
  rcases hb' with hb' | ⟨s2,o2,o2',h2,h3,h4,h5⟩
  ·exact(h.prv s o' h1 hfr b hb).1 hb'
  ·by_cases hss:s2=s
   ·subst hss
    rw[h'] at h3
    obtain rfl:=Option.some.inj h3
    rw[hfr] at h4;cases h4
   ·cases hq:o2.frozen with
    | true=>exact(h.prv s o' h1 hfr b hb).1 (h.frz s2 o2 h2 hq b h5)
    | false=>exact h.dis s2 s o2 o' hss h2 h1 hq hfr b h5 hb
 ·intro s o' h' hfr b hb
  obtain⟨o,h1,_⟩:=back s o' h'
  exact .inr ⟨s,o,o',h1,h',hfr,hb⟩
 ·intro s1 s2 o1 o2 hne h1 h2 f1 f2
  exact h.dis s1 s2 o1 o2 hne (backU s1 o1 h1 f1) (backU s2 o2 h2 f2) f1 f2
 ·intro s o' h' b hb
  obtain⟨o,h1,_⟩:=back s o' h'
  exact h.szF s o h1 b hb
 ·rintro b (hb | ⟨s2,o2,o2',h2,h3,h4,h5⟩)
  ·exact h.szS b hb
  ·exact h.szF s2 o2 h2 b h5
 ·rintro b (hb | ⟨s2,o2,o2',h2,h3,h4,h5⟩)
  ·exact h.SO b hb
  ·cases hq:o2.frozen with
   | true=>exact h.SO b (h.frz s2 o2 h2 hq b h5)
   | false=>exact .inr (h.prv s2 o2 h2 hq b h5).2
 ·intro s o' h' hfx
  obtain⟨o,h1,rfl | rfl⟩:=back s o' h'
  ·exact h.fx s _ h1 hfx
  ·exact h.fx s _ h1 (by rwa [Obj.freeze_fixed] at hfx)
theorem Frz.stays{ob ob':List (Option Obj)}(hf:Frz ob ob'){s:Nat}(h:∀ o,qad ob s=some o→o.frozen=true):∀ o,qad ob' s=some o→o.frozen=true:=by
 intro o ho
 rcases hf s with e | ⟨o1,e1,e2⟩
 ·exact h o (e ▸ ho)
 ·rw[ho] at e2
  obtain rfl:=Option.some.inj e2
  exact Obj.freeze_frozen _
theorem qdh{ob ob':List (Option Obj)}(hf:Frz ob ob'):∀(n:Nat) (v:V0),qbs n ob' v=qbs n ob v
 | 0,_=>rfl
 | n+1,v=>by
  cases v with
  | box s off =>
   simp only[qbs]
   rcases hf s with e | ⟨o1,e1,e2⟩
   ·rw[e]
    split
    ·congr 2;funext c;exact qdh hf n c
    ·rfl
   ·rw[e1,e2]
    cases o1 with
    | box cs fz fx =>
     simp only[Obj.freeze]
     congr 2;funext c;exact qdh hf n c
    | arr=>rfl
    | hol=>rfl
    | hlp=>rfl
    | bxo=>rfl
  | _=>rfl
theorem qcy(ob:List (Option Obj))(s:Nat):∀ o,qad (ob.modify s (·.map Obj.freeze)) s=some o→o.frozen=true:=by
 intro o ho
 rw[qbN,if_pos rfl] at ho
 obtain⟨o',_,rfl⟩:=Option.map_eq_some_iff.1 ho
 exact Obj.freeze_frozen _
theorem qgB:∀(n:Nat) (ob:List (Option Obj)) (v:V0),∀ s∈qbs n ob v,∀ o,qad (freezeN n ob v) s=some o→o.frozen=true
 | 0,ob,v=>by intro s hs;cases hs
 | n+1,ob,v=>by
  have fold:∀(l:List V0) (ob1:List (Option Obj)),Frz ob ob1→∀ s,(∃ c∈l,s∈qbs n ob c)→∀ o,qad (l.foldl (freezeN n) ob1) s=some o→o.frozen=true:=by
   intro l
   induction l with
   | nil=>rintro ob1 _ s ⟨c,hc,_⟩;cases hc
   | cons c l ih =>
    rintro ob1 h1 s ⟨c',hc',hs⟩
    rw[List.foldl_cons]
    rcases List.mem_cons.1 hc' with rfl | hc'
    ·refine(Frz.foldl (Frz.freezeN n) l _).stays ?_
     exact qgB n ob1 c' s (by rw[qdh h1];exact hs)
    ·exact ih _ (h1.trans (Frz.freezeN n ob1 c)) s ⟨c',hc',hs⟩
  intro s hs
  cases v with
  | arr s'=>simp only[qbs,List.mem_singleton] at hs;subst hs;exact qcy ob s
  | sub s' _ _ _=>simp only[qbs,List.mem_singleton] at hs;subst hs;exact qcy ob s
  | elt s' _ _ _=>simp only[qbs,List.mem_singleton] at hs;subst hs;exact qcy ob s
  | box s' off =>
   simp only[qbs] at hs
   simp only[freezeN]
   cases ho:qad ob s' with
   | none =>
    rw[ho] at hs
    cases hs
   | some o1 =>
    rw[ho] at hs
    cases o1 with
    | hol=>cases hs
    | hlp=>cases hs
    | bxo=>cases hs
    | arr t xs d fz fx =>
     cases hs
    | box cs fz fx =>
     simp only[List.mem_cons,List.mem_flatMap] at hs
     simp only
     rcases hs with rfl | hs
     ·exact(Frz.foldl (Frz.freezeN n) cs _).stays (qcy ob s)
     ·exact fold cs _ (Frz.modify ob s') s hs
  | _=>cases hs
end
end Ve
namespace Ve
open Go
section
variable {S S':qab} {w w':World} {g g':Nat→Value} {C:Ctx} {F F':Nat→qab} {st:St} {tm:Array Value} {P:Program} {ρ:Type}
theorem Sim.freezes(h:Sim C S g F st tm w)(l:List V0) :
  ∃ S',Sim C S' g F { st with ob:=l.foldl freeze st.ob } tm w∧Moved S F st w S' F { st with ob:=l.foldl freeze st.ob } w [] ∧
   ∀ v∈l,∀ s∈qdJ st.ob v,∀ o,qad st.ob s=some o→∀ b,F s b→S' b:=by
 have hf:Frz st.ob (l.foldl freeze st.ob):=Frz.foldl (Frz.freezeN 3) l st.ob
 have hlead:∀(l:List V0) (ob1:List (Option Obj)),Frz st.ob ob1→∀ v∈l,∀ s∈qdJ st.ob v,∀ o,qad (l.foldl freeze ob1) s=some o→o.frozen=true:=by
  intro l
  induction l with
  | nil=>intro ob1 _ v hv;cases hv
  | cons c l ih =>
   intro ob1 h1 v hv s hs
   rw[List.foldl_cons]
   rcases List.mem_cons.1 hv with rfl | hv
   ·refine(Frz.foldl (Frz.freezeN 3) l _).stays ?_
    exact qgB 3 ob1 v s (by rw[qdh h1];exact hs)
   ·exact ih _ (h1.trans (Frz.freezeN 3 ob1 c)) v hv s hs
 refine⟨_,h.frozen hf,⟨fun b h=>.inl h,fun _ _ _=>rfl,fun _ _=>rfl,fun s' o' ho' hfr b hb=>?_,Nat.le_refl _⟩,fun v hv s hs o ho b hb=>?_⟩
 ·rcases hf s' with e | ⟨o,e1,e2⟩
  ·exact .inr (.inl ⟨o',e ▸ ho',hfr,hb⟩)
  ·simp only at ho'
   rw[ho'] at e2
   obtain rfl:=Option.some.inj e2
   rw[Obj.freeze_frozen] at hfr;cases hfr
 ·rcases hf s with e | ⟨o1,e1,e2⟩
  ·exact .inr ⟨s,o,o,ho,e.trans ho,hlead l st.ob (Frz.refl _) v hv s hs o (e.trans ho),hb⟩
  ·exact .inr ⟨s,o1,o1.freeze,e1,e2,Obj.freeze_frozen _,hb⟩
theorem Sim.drop(h:Sim C S g F st tm w)(s:Nat):Sim C S g F (st.dropOb s) tm w∧Moved S F st w S F (st.dropOb s) w []:=by
 have:=h.new s none (g s) (F s) (w':=w) (Nat.le_refl _) (fun _ _=>rfl) (fun _ _ _ _ _ _=>rfl) (fun _ _ _=>rfl) (fun o' he=>by cases he)
 rw[qcv,qcv] at this
 refine⟨this,fun _ h=>h,fun _ _ _=>rfl,fun _ _=>rfl,fun s' o' ho' hf' b hb=>?_,Nat.le_refl _⟩
 by_cases hs:s'=s
 ·subst hs
  have:=qaC ho'
  cases this
 ·unfold St.dropOb at ho'
  rw[St.setOb,qam _ _ hs] at ho'
  obtain⟨o'',h1,rfl⟩:=qaZ ho'
  rw[Obj.frozen_kill] at hf'
  exact .inr (.inl ⟨o'',h1,hf',hb⟩)
end
end Ve
namespace Ve
open Go
section
variable {S S':qab} {w w':World} {g g':Nat→Value} {C:Ctx} {F F':Nat→qab} {st:St} {tm:Array Value} {P:Program} {ρ:Type}
def Un(F:Nat→qab)(l:List Nat):qab:=fun b=>∃ s∈l,F s b
theorem qsr{d:Dv}{u:Ty}{x:u.T}{vs:List Value}{G:qab}(h:d.to u=some x)(hr:DRp w d.t d.x vs G):DRp w u x vs G:=by
 obtain⟨t,y⟩:=d
 obtain⟨e,rfl⟩:=Dv.to_some h
 cases e
 exact hr
theorem qgJ{v:V0}{l:List Nat}(h:qe8 st.ob v=some l):∀ s∈l,∃ t xs,qad st.ob s=some (.arr t xs true false false):=by
 unfold qe8 at h
 split at h
 ·split at h
  ·rename_i ho
   obtain rfl:=Option.some.inj h
   intro s hs
   simp only[List.mem_singleton] at hs
   subst hs
   exact⟨_,_,ho⟩
  ·cases h
 ·obtain rfl:=Option.some.inj h;intro s hs;cases hs
 ·split at h
  ·obtain rfl:=Option.some.inj h;intro s hs;cases hs
  ·cases h
 ·cases h
theorem qs1(hs:Sim C S g F st tm w){v:V0}{l:List Nat}{t:Ty}{x:t.T}{u:Value}(h:qe8 st.ob v=some l)(hf:qf7 st.ob t v=some x)(hv:V0R S w g v u) :
  DRp w t x [u] (Un F l):=by
 obtain⟨d,hd,hx⟩:=Option.bind_eq_some_iff.1 hf
 refine qsr hx ?_
 unfold qe8 at h
 split at h
 ·rename_i s
  split at h
  ·rename_i t' xs ho
   obtain rfl:=Option.some.inj h
   simp only[frz,qpm,qbI,ho] at hd
   obtain rfl:=Option.some.inj hd
   obtain⟨rfl,_⟩:=hv
   have hob:qar S w true t' xs (g s) (F s):=hs.ob s _ ho
   exact DRp.mono _ _ _ (fun b hb=>⟨s,by simp,hb⟩) (fun _ _=>rfl) (qjA.2 hob)
  ·cases h
 ·rename_i t'
  obtain rfl:=Option.some.inj h
  simp only[frz,qpm,qbI] at hd
  obtain rfl:=Option.some.inj hd
  obtain⟨A,rfl⟩:=hv
  exact⟨A,0,rfl,⟨Nat.le_refl _,Nat.zero_le _⟩,.inl rfl⟩
 ·rename_i t' x'
  split at h
  ·rename_i hfl
   obtain rfl:=Option.some.inj h
   simp only[frz,qpm,qbI] at hd
   obtain rfl:=Option.some.inj hd
   exact Rp.deep t' x' [u] _ hfl hv
  ·cases h
 ·cases h
theorem qbO:∀ {vs:List V0} {l:List Nat},qaP st.ob vs=some l→∀ s∈l,∃ t xs,qad st.ob s=some (.arr t xs true false false)
  | [],l,h=>by obtain rfl:=Option.some.inj h;intro s hs;cases hs
  | v::vs,l,h=>by
      unfold qaP at h
      obtain⟨l1,h1,h⟩:=Option.bind_eq_some_iff.1 h
      obtain⟨l2,h2,h⟩:=Option.bind_eq_some_iff.1 h
      split at h
      · obtain rfl:=Option.some.inj h
        intro s hs
        rcases List.mem_append.1 hs with hs | hs
        · exact qgJ h1 s hs
        · exact qbO h2 s hs
      · cases h
theorem qs0(hs:Sim C S g F st tm w):∀ {c:Ty} {vs:List V0} {x:c.T} {us:List Value} {l:List Nat},qaP st.ob vs=some l→qfP st.ob c vs=some x→Cs S w g vs us →
    DRp w c x us (Un F l)
  | .nil,[],x,us,l,_,h,hc=>hc
  | .cons a b,v::vs,x,us,l,ho,h,⟨u,us',he,hc1,hc2⟩=>by
      simp only[qfP] at h
      obtain⟨x1,hx1,h⟩:=Option.bind_eq_some_iff.1 h
      obtain⟨x2,hx2,rfl⟩:=Option.map_eq_some_iff.1 h
      subst he
      unfold qaP at ho
      obtain⟨l1,h1,ho⟩:=Option.bind_eq_some_iff.1 ho
      obtain⟨l2,h2,ho⟩:=Option.bind_eq_some_iff.1 ho
      split at ho
      · rename_i hd
        obtain rfl:=Option.some.inj ho
        refine⟨[u],us',Un F l1,Un F l2,rfl,fun b ⟨s,hs,hb⟩=>⟨s,by simp[hs],hb⟩,fun b ⟨s,hs,hb⟩=>⟨s,by simp[hs],hb⟩,?_,qs1 hs h1 hx1 hc1,qs0 hs h2 hx2 hc2⟩
        rintro b ⟨s,hs1,hb1⟩ ⟨s',hs2,hb2⟩
        obtain⟨t,xs,e1⟩:=qgJ h1 s hs1
        obtain⟨t',xs',e2⟩:=qbO h2 s' hs2
        have hne:s≠s':=by
          rintro rfl
          have:=List.all_eq_true.1 hd s hs1
          simp at this
          exact this hs2
        exact hs.dis s s' _ _ hne e1 e2 rfl rfl b hb1 hb2
      · cases ho
  | .nil,_::_,_,_,_,_,h,_=>by simp[qfP] at h
  | .cons _ _,[],_,_,_,_,h,_=>by simp[qfP] at h
  | .int _,_,_,_,_,_,h,_=>by simp[qfP] at h
  | .bool,_,_,_,_,_,h,_=>by simp[qfP] at h
  | .str,_,_,_,_,_,h,_=>by simp[qfP] at h
  | .sl _,_,_,_,_,_,h,_=>by simp[qfP] at h
  | .ptr _,_,_,_,_,_,h,_=>by simp[qfP] at h
  | .fn _ _,_,_,_,_,_,h,_=>by simp[qfP] at h
  | .lab _,_,_,_,_,_,h,_=>by simp[qfP] at h
  | .st _,_,_,_,_,_,h,_=>by simp[qfP] at h
end
end Ve
namespace Ve
open Go
section
variable {S S':qab} {w w':World} {g g':Nat→Value} {C:Ctx} {F F':Nat→qab} {st:St} {tm:Array Value} {P:Program} {ρ:Type}
theorem Moved.trans{S2:qab}{F2:Nat→qab}{st' st2:St}{M M2:List Nat}{w2:World}(h1:Moved S F st w S' F' st' w' M)(h2:Moved S' F' st' w' S2 F2 st2 w2 M2)
  (hsz:∀ b,S b→b<w.heap.size)
  (hM:∀ s∈M2,∀ o,qad st'.ob s=some o→∀ b,F' s b→w.heap.size≤b∨∃ s'∈M,∃ o',qad st.ob s'=some o'∧F s' b):Moved S F st w S2 F2 st2 w2 M where
 mS b h:=h2.mS b (h1.mS b h)
 keep b hb hk:=by
  rw[h2.keep b (Nat.lt_of_lt_of_le hb h1.size) fun s hs o ho hF=>?_,h1.keep b hb hk]
  rcases hM s hs o ho b hF with h | ⟨s',hs',o',ho',hF'⟩
  ·omega
  ·exact hk s' hs' o' ho' hF'
 keepS b hb:=by rw[h2.keepS b (h1.mS b hb),h1.keepS b hb]
 mF s' o' ho hf b hb:=by
  rcases h2.mF s' o' ho hf b hb with h | ⟨o,h3,h4,h5⟩ | ⟨s,hs,o,h3,h4⟩
  ·exact .inl (Nat.le_trans h1.size h)
  ·exact h1.mF s' o h3 h4 b h5
  ·rcases hM s hs o h3 b h4 with h | h
   ·exact .inl h
   ·exact .inr (.inr h)
 size:=Nat.le_trans h1.size h2.size
theorem Sim.drops:∀(l:List Nat) {st:St},Sim C S g F st tm w →
    Sim C S g F (l.foldl (fun st s=>st.dropOb s) st) tm w ∧
    (∀ s o,qad (l.foldl (fun st s=>st.dropOb s) st).ob s=some o→s∉l∧∃ o',qad st.ob s=some o'∧o'.frozen=o.frozen)
  | [],st,h=>⟨h,fun s o ho=>⟨by simp,o,ho,rfl⟩⟩
  | s0::l,st,h=>by
      obtain⟨h1,h2⟩:=Sim.drops l (h.drop s0).1
      refine⟨h1,fun s o ho=>?_⟩
      obtain⟨hn,o',ho',hfr⟩:=h2 s o ho
      by_cases hs:s=s0
      · subst hs
        have:=qaC ho'
        cases this
      · unfold St.dropOb at ho'
        rw[St.setOb,qam _ _ hs] at ho'
        obtain⟨o'',h3,rfl⟩:=qaZ ho'
        rw[Obj.frozen_kill] at hfr
        exact⟨by simp[hs,hn],o'',h3,hfr⟩
theorem qen(hs:Sim C S g F st tm w)(cells:List V0) :
    ∃ S',∃ G:qab,Sim C S' g F (qbS st cells).2 tm w∧(∀ b,S b→S' b) ∧
      (∀ s o,qad (qbS st cells).2.ob s=some o→∃ o',qad st.ob s=some o'∧(o.frozen=false→o'.frozen=false)) ∧
      (∀ b,G b→¬ S' b∧C.O b∧b<w.heap.size∧(∀ s o,qad (qbS st cells).2.ob s=some o→o.frozen=false→¬ F s b) ∧
        ∃ v∈cells,∃ s∈v.site,∃ o,qad st.ob s=some o∧F s b) ∧
      (∀ {c:Ty} {x:c.T} {us:List Value},qfP st.ob c cells=some x→Cs S w g cells us→El S' w (qbS st cells).1 c x us G) ∧
      (∀ {t:Ty} {x:t.T} {v:V0} {u:Value},cells=[v]→qf7 st.ob t v=some x→V0R S w g v u→El S' w (qbS st cells).1 t x [u] G):=by
  unfold qbS
  cases ho:qaP st.ob cells with
  | some l =>
    simp only
    obtain⟨h1,h2⟩:=Sim.drops l hs
    refine⟨S,Un F l,h1,fun _ h=>h,fun s o h=>?_,fun b hb=>?_,fun hf hc=>qs0 hs ho hf hc,fun hc hf hv=>?_⟩
    · obtain⟨_,o',h3,h4⟩:=h2 s o h
      exact⟨o',h3,fun h5=>h4.trans h5⟩
    · obtain⟨s,hsl,hF⟩:=hb
      obtain⟨t,xs,hl⟩:=qbO ho s hsl
      have hp:=hs.prv s _ hl rfl b hF
      refine⟨hp.1,hp.2,hs.szF s _ hl b hF,fun s' o h3 hfr hF'=>?_,?_⟩
      · obtain⟨hn,o',h4,h5⟩:=h2 s' o h3
        have hne:s≠s':=fun e=>hn (e ▸ hsl)
        exact hs.dis s s' _ _ hne hl h4 rfl (h5.trans hfr) b hF hF'
      · have key:∀ {vs:List V0} {l:List Nat},qaP st.ob vs=some l→∀ s∈l,∃ v∈vs,s∈v.site:=by
          intro vs
          induction vs with
          | nil=>intro l h s hs';obtain rfl:=Option.some.inj h;cases hs'
          | cons v vs ih =>
            intro l h s hs'
            unfold qaP at h
            obtain⟨l1,e1,h⟩:=Option.bind_eq_some_iff.1 h
            obtain⟨l2,e2,h⟩:=Option.bind_eq_some_iff.1 h
            split at h
            · obtain rfl:=Option.some.inj h
              rcases List.mem_append.1 hs' with hs' | hs'
              · refine⟨v,by simp,?_⟩
                unfold qe8 at e1
                split at e1
                · split at e1
                  · obtain rfl:=Option.some.inj e1;exact hs'
                  · cases e1
                · obtain rfl:=Option.some.inj e1;cases hs'
                · split at e1
                  · obtain rfl:=Option.some.inj e1;cases hs'
                  · cases e1
                · cases e1
              · obtain⟨v',hv',h3⟩:=ih e2 s hs'
                exact⟨v',by simp[hv'],h3⟩
            · cases h
        obtain⟨v,hv,hsv⟩:=key ho s hsl
        exact⟨v,hv,s,hsv,_,hl,hF⟩
    · subst hc
      unfold qaP at ho
      obtain⟨l1,e1,ho⟩:=Option.bind_eq_some_iff.1 ho
      simp only[qaP,Option.bind_some] at ho
      split at ho
      · obtain rfl:=Option.some.inj ho
        rw[List.append_nil]
        exact qs1 hs e1 hf hv
      · cases ho
  | none =>
    simp only
    obtain⟨S',h1,h2,h3⟩:=hs.freezes cells
    refine⟨S',fun _=>False,h1,h2.mS,fun s o h=>?_,fun b hb=>hb.elim,fun hf hc=>?_,fun hc hf hv=>?_⟩
    · have hf:Frz st.ob (cells.foldl freeze st.ob):=Frz.foldl (Frz.freezeN 3) cells st.ob
      rcases hf s with e | ⟨o1,e1,e2⟩
      · exact⟨o,e ▸ h,fun h=>h⟩
      · refine⟨o1,e1,fun hfr=>?_⟩
        rw[h] at e2
        obtain rfl:=Option.some.inj e2
        rw[Obj.freeze_frozen] at hfr;cases hfr
    · exact qfY hs h2.mS hf hc h3
    · subst hc
      exact qck hs hf hv h2.mS (h3 _ (by simp))
end
end Ve
namespace Ve
open Go
section
variable {S S':qab} {w w':World} {g g':Nat→Value} {C:Ctx} {F F':Nat→qab} {st:St} {tm:Array Value} {P:Program} {ρ:Type}
def putCells(l:List Value)(k:Nat)(us:List Value):List Value:=l.take k++us++l.drop (k+us.length)
theorem qc3{l us:List Value}{k j:Nat}(hk:k+us.length≤l.length):(putCells l k us)[j]? = if k≤j∧j<k+us.length then us[j-k]? else l[j]?:=by
 unfold putCells
 have h1:(l.take k).length=k:=by simp;omega
 by_cases hj:j<k
 ·have:¬ (k≤j∧j<k+us.length):=by omega
  rw[if_neg this,List.append_assoc,List.getElem?_append_left (by omega),List.getElem?_take_of_lt hj]
 ·by_cases hj2:j<k+us.length
  ·have:k≤j∧j<k+us.length:=by omega
   rw[if_pos this,List.append_assoc,List.getElem?_append_right (by omega),h1,List.getElem?_append_left (by omega)]
  ·have:¬ (k≤j∧j<k+us.length):=by omega
   rw[if_neg this,List.getElem?_append_right (by simp;omega)]
   simp only[List.length_append,h1]
   rw[List.getElem?_drop]
   congr 1;omega
theorem qpk{i j m q:Nat}(hq:q<m)(hne:j≠i):¬ (i*m≤j*m+q∧j*m+q<i*m+m):=by
 rintro⟨h1,h2⟩
 rcases Nat.lt_or_gt_of_ne hne with h | h
 ·have:(j+1)*m≤i*m:=Nat.mul_le_mul_right m h
  rw[Nat.add_mul] at this;omega
 ·have:(i+1)*m≤j*m:=Nat.mul_le_mul_right m h
  rw[Nat.add_mul] at this;omega
theorem qar.setElem{d:Bool}{t:Ty}{xs:List t.T}{n c:Nat}{Fs Gx:qab}{b:Nat}{arr:Array Value}{e:TypeId}{i:Nat}{y:t.T}{us:List Value}{cs:Array Value}
  (h:qar S w d t xs (.slice (some ⟨b,0,none⟩) n c) Fs) (hh:w.heap[b]? = some (.cells arr e (0,0))) (hin:i<n)
  (hcs:cs.toList=putCells arr.toList (i*t.size) us) (hy:El S w d t y us Gx) (hS:∀ b',S b'→b'≠b) (hG:∀ b',Gx b'→b'≠b∧¬ Fs b') :
  qar S (w.setRow b cs) d t (xs.set i y) (.slice (some ⟨b,0,none⟩) n c) (fun b'=>Fs b'∨Gx b'):=by
 obtain⟨A,c',hv,hc,h⟩:=h
 obtain⟨rfl,rfl,rfl⟩:some ⟨b,0,none⟩=A∧n=xs.length∧c=c':=by simpa using hv
 have hul:=hy.len
 rcases h with h | ⟨b',arr',e',G,hA,hb,hh',hsz,hGG,hd,he⟩
 ·omega
 ·obtain rfl:b=b':=by simpa using hA
  rw[hh] at hh'
  obtain⟨rfl,rfl⟩:arr=arr'∧e=e':=by simpa using hh'
  have hfit:i*t.size+us.length≤arr.toList.length:=by
   rw[hul]
   have:(i+1)*t.size≤c*t.size:=Nat.mul_le_mul_right _ (by omega)
   rw[Nat.add_mul] at this
   simp only[Array.length_toList,hsz];omega
  have hget:∀ j:Nat,cs[j]? = if i*t.size≤j∧j<i*t.size+us.length then us[j-i*t.size]? else arr[j]?:=by
   intro j
   have:=qc3 (j:=j) hfit
   rw[← hcs] at this
   simpa using this
  refine⟨_,c,by rw[List.length_set],by rw[List.length_set];exact hc,.inr ⟨b,cs,e,fun j=>if j=i then Gx else G j,rfl,.inl hb,setRow_heap w b arr cs e _ hh,?_,?_,?_,?_⟩⟩
  ·have:=congrArg List.length hcs
   simp only[Array.length_toList,putCells,List.length_append,List.length_take,List.length_drop] at this
   simp only[Array.length_toList] at hfit
   omega
  ·intro j b' hj
   by_cases hji:j=i
   ·simp only[hji,if_true] at hj;exact⟨.inr hj,(hG b' hj).1⟩
   ·simp only[hji,if_false] at hj;exact⟨.inl (hGG j b' hj).1,(hGG j b' hj).2⟩
  ·intro j k b' hjk hj hk
   by_cases hji:j=i
   ·simp only[hji,if_true] at hj
    have hki:k≠i:=fun e=>hjk (hji.trans e.symm)
    simp only[hki,if_false] at hk
    exact(hG b' hj).2 (hGG k b' hk).1
   ·simp only[hji,if_false] at hj
    by_cases hki:k=i
    ·simp only[hki,if_true] at hk;exact(hG b' hk).2 (hGG j b' hj).1
    ·simp only[hki,if_false] at hk;exact hd j k b' hjk hj hk
  ·intro j x hx
   by_cases hji:j=i
   ·subst hji
    rw[List.getElem?_set_self (by omega)] at hx
    obtain rfl:=Option.some.inj hx
    refine⟨us,?_,fun q u hq=>?_⟩
    ·simp only[if_true]
     exact hy.mono (fun _ h=>h) (fun b' h'=>setRow_other w b b' cs (hS b' h')) (fun _ h=>h) fun b' h'=>setRow_other w b b' cs (hG b' h').1
    ·have hql:=(List.getElem?_eq_some_iff.1 hq).1
     rw[hget,if_pos (by omega)]
     rw[Nat.add_sub_cancel_left];exact hq
   ·rw[List.getElem?_set_ne (Ne.symm hji)] at hx
    obtain⟨us',h1,h2⟩:=he j x hx
    refine⟨us',?_,fun q u hq=>?_⟩
    ·simp only[hji,if_false]
     exact h1.mono (fun _ h=>h) (fun b' h'=>setRow_other w b b' cs (hS b' h')) (fun _ h=>h) fun b' h'=>setRow_other w b b' cs (hGG j b' h').2
    ·have hql:=(List.getElem?_eq_some_iff.1 hq).1
     rw[h1.len] at hql
     rw[hget,hul,if_neg (qpk hql hji)]
     exact h2 q u hq
end
end Ve
