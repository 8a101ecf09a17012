import Derived.Test.YtcedcmppgagkaaaV2
import Derived.Test.YtcedcmppgagkaaaProg
import Derived.KernelRfl
import Derived.Deep.QuietTactic
import Derived.BigQuiet
import Derived.RegionTactic
import Derived.Deep.RegionWith
import Derived.Shelf.SlSortCmp.Whole1
import Derived.Shelf.SlSortCmp.NoneTotal
import Derived.Ground.SlsfProg
import Derived.WalkKit
import Derived.Lib.Walk
import Derived.Lib.SliceRun
import Derived.Lib.AppendZerosOnto
set_option linter.unusedVariables false
set_option linter.unusedSimpArgs false
open Go Go.Proofs Ve
set_option linter.unusedVariables false
set_option maxRecDepth 100000
namespace VeT
abbrev yM : Ty := .cons (.int .i64) (.cons (.int .i64) (.cons (.int .i64) (.cons (.sl (.int .i64)) .nil)))
abbrev yI : Ty := .int .i64
abbrev yL : Ty := .sl yI
abbrev yK : Ty := .sl yL
abbrev yN : Ty := .sl (.st yM)
abbrev yS : Ty := .cons yK (.cons yI (.cons yL (.cons yN .nil)))
abbrev vM := Int × Int × Int × List Int × Unit
abbrev vK := List (List Int)
abbrev vN := List vM
abbrev vS := vK × Int × List Int × vN × Unit
noncomputable def bodyOf (f:Func):Code := f.body.getD .skip
def zd:Nat → List Ve.V → List Ve.V
  | 0,t => t
  | n + 1,t => V.dead::zd n t
def zo:Nat → List (Option Ve.Obj) → List (Option Ve.Obj)
  | 0,t => t
  | n + 1,t => none::zo n t
@[reducible] def n_Z24:Nat := 3
@[reducible] def n_Z34:Nat := 6
@[reducible] def n_Z61:Nat := 7
@[reducible] def n_Z37:Nat := 8
@[reducible] def n_Z5:Nat := 9
@[reducible] def n_Z25:Nat := 10
@[reducible] def n_Z31:Nat := 11
@[reducible] def n_Z28:Nat := 12
@[reducible] def n_Z36:Nat := 20
@[reducible] def n_Z70:Nat := 21
@[reducible] def n_Z75:Nat := 22
@[reducible] def n_Z74:Nat := 23
@[reducible] def n_Z39:Nat := 24
@[reducible] def n_Z6:Nat := 25
@[reducible] def n_Z15:Nat := 26
@[reducible] def n_Z14:Nat := 27
@[reducible] def n_Z10:Nat := 28
@[reducible] def n_Z27:Nat := 29
@[reducible] def n_Z33:Nat := 30
@[reducible] def n_Z30:Nat := 31
@[reducible] def n_Z73:Nat := 33
@[reducible] def n_Z63:Nat := 36
@[reducible] def n_Z23:Nat := 39
@[reducible] def n_Z21:Nat := 40
@[reducible] def n_Z26:Nat := 45
@[reducible] def n_Z32:Nat := 47
@[reducible] def n_Z29:Nat := 49
@[reducible] def n_Z35:Nat := 51
@[reducible] def n_Z72:Nat := 52
@[reducible] def n_Z67:Nat := 53
@[reducible] def n_Z69:Nat := 54
@[reducible] def n_Z68:Nat := 55
@[reducible] def n_Z62:Nat := 56
@[reducible] def n_Z64:Nat := 57
@[reducible] def n_Z38:Nat := 58
@[reducible] def n_Z8:Nat := 59
@[reducible] def n_Z11:Nat := 60
@[reducible] def n_Z46:Nat := 61
@[reducible] def n_Z13:Nat := 62
@[reducible] def n_Z7:Nat := 63
@[reducible] def n_Z16:Nat := 64
@[reducible] def n_Z12:Nat := 65
@[reducible] def n_Z60:Nat := 66
@[reducible] def n_Z43:Nat := 67
@[reducible] def n_Z52:Nat := 68
@[reducible] def n_Z22:Nat := 69
@[reducible] def n_Z51:Nat := 70
@[reducible] def n_Z71:Nat := 71
@[reducible] def n_Z42:Nat := 76
@[reducible] def n_Z65:Nat := 82
@[reducible] def n_Z66:Nat := 83
@[reducible] def n_Z19:Nat := 84
@[reducible] def n_Z48:Nat := 85
@[reducible] def n_Z9:Nat := 86
@[reducible] def n_Z20:Nat := 87
@[reducible] def n_Z2:Nat := 88
@[reducible] def n_Z0:Nat := 89
@[reducible] def n_Z44:Nat := 90
@[reducible] def n_Z54:Nat := 91
@[reducible] def n_Z45:Nat := 92
@[reducible] def n_Z40:Nat := 93
@[reducible] def n_Z17:Nat := 96
@[reducible] def n_Z59:Nat := 97
@[reducible] def n_Z56:Nat := 100
@[reducible] def n_Z3:Nat := 101
@[reducible] def n_Z1:Nat := 102
@[reducible] def n_Z53:Nat := 103
@[reducible] def n_Z18:Nat := 114
@[reducible] def n_Z4:Nat := 115
@[reducible] noncomputable def F_Z24:Func := Try.f3
@[reducible] noncomputable def F_Z34:Func := Try.f6
@[reducible] noncomputable def F_Z61:Func := Try.f7
@[reducible] noncomputable def F_Z37:Func := Try.f8
@[reducible] noncomputable def F_Z5:Func := Try.f9
@[reducible] noncomputable def F_Z25:Func := Try.f10
@[reducible] noncomputable def F_Z31:Func := Try.f11
@[reducible] noncomputable def F_Z28:Func := Try.f12
@[reducible] noncomputable def F_Z36:Func := Try.f20
@[reducible] noncomputable def F_Z70:Func := Try.f21
@[reducible] noncomputable def F_Z75:Func := Try.f22
@[reducible] noncomputable def F_Z74:Func := Try.f23
@[reducible] noncomputable def F_Z39:Func := Try.f24
@[reducible] noncomputable def F_Z6:Func := Try.f25
@[reducible] noncomputable def F_Z15:Func := Try.f26
@[reducible] noncomputable def F_Z14:Func := Try.f27
@[reducible] noncomputable def F_Z10:Func := Try.f28
@[reducible] noncomputable def F_Z27:Func := Try.f29
@[reducible] noncomputable def F_Z33:Func := Try.f30
@[reducible] noncomputable def F_Z30:Func := Try.f31
@[reducible] noncomputable def F_Z73:Func := Try.f33
@[reducible] noncomputable def F_Z63:Func := Try.f36
@[reducible] noncomputable def F_Z23:Func := Try.f39
@[reducible] noncomputable def F_Z21:Func := Try.f40
@[reducible] noncomputable def F_Z26:Func := Try.f45
@[reducible] noncomputable def F_Z32:Func := Try.f47
@[reducible] noncomputable def F_Z29:Func := Try.f49
@[reducible] noncomputable def F_Z35:Func := Try.f51
@[reducible] noncomputable def F_Z72:Func := Try.f52
@[reducible] noncomputable def F_Z67:Func := Try.f53
@[reducible] noncomputable def F_Z69:Func := Try.f54
@[reducible] noncomputable def F_Z68:Func := Try.f55
@[reducible] noncomputable def F_Z62:Func := Try.f56
@[reducible] noncomputable def F_Z64:Func := Try.f57
@[reducible] noncomputable def F_Z38:Func := Try.f58
@[reducible] noncomputable def F_Z8:Func := Try.f59
@[reducible] noncomputable def F_Z11:Func := Try.f60
@[reducible] noncomputable def F_Z46:Func := Try.f61
@[reducible] noncomputable def F_Z13:Func := Try.f62
@[reducible] noncomputable def F_Z7:Func := Try.f63
@[reducible] noncomputable def F_Z16:Func := Try.f64
@[reducible] noncomputable def F_Z12:Func := Try.f65
@[reducible] noncomputable def F_Z60:Func := Try.f66
@[reducible] noncomputable def F_Z43:Func := Try.f67
@[reducible] noncomputable def F_Z52:Func := Try.f68
@[reducible] noncomputable def F_Z22:Func := Try.f69
@[reducible] noncomputable def F_Z51:Func := Try.f70
@[reducible] noncomputable def F_Z71:Func := Try.f71
@[reducible] noncomputable def F_Z42:Func := Try.f76
@[reducible] noncomputable def F_Z65:Func := Try.f82
@[reducible] noncomputable def F_Z66:Func := Try.f83
@[reducible] noncomputable def F_Z19:Func := Try.f84
@[reducible] noncomputable def F_Z48:Func := Try.f85
@[reducible] noncomputable def F_Z9:Func := Try.f86
@[reducible] noncomputable def F_Z20:Func := Try.f87
@[reducible] noncomputable def F_Z2:Func := Try.f88
@[reducible] noncomputable def F_Z0:Func := Try.f89
@[reducible] noncomputable def F_Z44:Func := Try.f90
@[reducible] noncomputable def F_Z54:Func := Try.f91
@[reducible] noncomputable def F_Z45:Func := Try.f92
@[reducible] noncomputable def F_Z40:Func := Try.f93
@[reducible] noncomputable def F_Z17:Func := Try.f96
@[reducible] noncomputable def F_Z59:Func := Try.f97
@[reducible] noncomputable def F_Z56:Func := Try.f100
@[reducible] noncomputable def F_Z3:Func := Try.f101
@[reducible] noncomputable def F_Z1:Func := Try.f102
@[reducible] noncomputable def F_Z53:Func := Try.f103
@[reducible] noncomputable def F_Z18:Func := Try.f114
@[reducible] noncomputable def F_Z4:Func := Try.f115
@[reducible] def o_Z24:Ty := (.cons .bool .nil)
noncomputable def sg_Z24:Sig := ⟨[(true,1)],[],o_Z24,[(false,1)],[],[]⟩
@[reducible] def o_Z34:Ty := (.cons yI .nil)
noncomputable def sg_Z34:Sig := ⟨[(true,1),(false,1)],[],o_Z34,[(false,1)],[],[]⟩
@[reducible] def o_Z61:Ty := (.cons yK (.cons yI (.cons yI .nil)))
noncomputable def sg_Z61:Sig := ⟨[(true,1)],[],o_Z61,[(true,1),(false,1),(false,1)],[.deep,.imm,.imm],[]⟩
@[reducible] def o_Z37:Ty := (.cons yK .nil)
noncomputable def sg_Z37:Sig := ⟨[(true,1)],[],o_Z37,[(true,1)],[.deep],[]⟩
@[reducible] def o_Z5:Ty := (.cons yK (.cons yI (.cons yI .nil)))
noncomputable def sg_Z5:Sig := ⟨[(true,1)],[],o_Z5,[(true,1),(false,1),(false,1)],[.deep,.imm,.imm],[]⟩
@[reducible] def o_Z25:Ty := (.cons .bool .nil)
noncomputable def sg_Z25:Sig := ⟨[(true,1),(true,1)],[],o_Z25,[(false,1)],[],[]⟩
@[reducible] def o_Z31:Ty := (.cons yI (.cons yK .nil))
noncomputable def sg_Z31:Sig := ⟨[(true,1),(false,1)],[.io true,.imm],o_Z31,[(false,1)],[],[]⟩
@[reducible] def o_Z28:Ty := (.cons yI .nil)
noncomputable def sg_Z28:Sig := ⟨[(true,1),(false,1)],[],o_Z28,[(false,1)],[],[]⟩
@[reducible] def o_Z36:Ty := (.cons yI .nil)
noncomputable def sg_Z36:Sig := ⟨[(false,1),(false,1)],[],o_Z36,[(false,1)],[],[]⟩
@[reducible] def o_Z70:Ty := (.cons .bool .nil)
noncomputable def sg_Z70:Sig := ⟨[(false,1)],[],o_Z70,[(false,1)],[],[(.ptr (.cons yK .nil))]⟩
@[reducible] def o_Z75:Ty := (.cons yK .nil)
noncomputable def sg_Z75:Sig := ⟨[(false,1),(false,1)],[],o_Z75,[(true,1)],[.deep],[(.ptr (.cons yK .nil))]⟩
@[reducible] def o_Z74:Ty := (.cons yK .nil)
noncomputable def sg_Z74:Sig := ⟨[(false,1)],[],o_Z74,[(false,1)],[.deep],[(.ptr (.cons yK .nil))]⟩
@[reducible] def o_Z39:Ty := (.cons yK .nil)
noncomputable def sg_Z39:Sig := ⟨[(false,1)],[],o_Z39,[(false,1)],[.deep],[]⟩
@[reducible] def o_Z6:Ty := (.cons .bool .nil)
noncomputable def sg_Z6:Sig := ⟨[(true,1)],[],o_Z6,[(false,1)],[],[]⟩
@[reducible] def o_Z15:Ty := (.cons yK .nil)
noncomputable def sg_Z15:Sig := ⟨[(false,1)],[],o_Z15,[(true,1)],[.deep],[]⟩
@[reducible] def o_Z14:Ty := (.cons yK .nil)
noncomputable def sg_Z14:Sig := ⟨[(true,1)],[],o_Z14,[(false,1)],[.deep],[]⟩
@[reducible] def o_Z10:Ty := (.cons yK .nil)
noncomputable def sg_Z10:Sig := ⟨[(true,1),(false,1)],[],o_Z10,[(true,1)],[.deep],[]⟩
@[reducible] def o_Z27:Ty := (.cons .bool .nil)
noncomputable def sg_Z27:Sig := ⟨[(false,1),(false,1)],[],o_Z27,[(false,1)],[],[]⟩
@[reducible] def o_Z33:Ty := (.cons yI (.cons yK .nil))
noncomputable def sg_Z33:Sig := ⟨[(false,1),(false,1)],[.io true,.imm],o_Z33,[(false,1)],[],[]⟩
@[reducible] def o_Z30:Ty := (.cons yI .nil)
noncomputable def sg_Z30:Sig := ⟨[(false,1),(false,1)],[],o_Z30,[(false,1)],[],[]⟩
@[reducible] def o_Z73:Ty := (.cons yL .nil)
noncomputable def sg_Z73:Sig := ⟨[(false,1),(false,1)],[],o_Z73,[(false,1)],[.deep],[(.ptr (.cons yK .nil))]⟩
@[reducible] def o_Z63:Ty := (.cons .bool .nil)
noncomputable def sg_Z63:Sig := ⟨[(false,1),(false,1),(false,1)],[],o_Z63,[(false,1)],[],[]⟩
@[reducible] def o_Z23:Ty := (.cons .bool .nil)
noncomputable def sg_Z23:Sig := ⟨[(false,1),(false,1),(false,1)],[],o_Z23,[(false,1)],[],[]⟩
@[reducible] def o_Z21:Ty := (.cons yI .nil)
noncomputable def sg_Z21:Sig := ⟨[(false,1)],[],o_Z21,[(false,1)],[],[]⟩
@[reducible] def o_Z26:Ty := (.cons .bool .nil)
noncomputable def sg_Z26:Sig := ⟨[(false,1),(false,1)],[],o_Z26,[(false,1)],[],[]⟩
@[reducible] def o_Z32:Ty := (.cons yI (.cons yL .nil))
noncomputable def sg_Z32:Sig := ⟨[(false,1),(false,1)],[.io true,.imm],o_Z32,[(false,1)],[],[]⟩
@[reducible] def o_Z29:Ty := (.cons yI .nil)
noncomputable def sg_Z29:Sig := ⟨[(false,1),(false,1)],[],o_Z29,[(false,1)],[],[]⟩
@[reducible] def o_Z35:Ty := (.cons yI .nil)
noncomputable def sg_Z35:Sig := ⟨[(false,1),(false,1)],[],o_Z35,[(false,1)],[],[]⟩
@[reducible] def o_Z72:Ty := (.cons .bool .nil)
noncomputable def sg_Z72:Sig := ⟨[(false,1)],[],o_Z72,[(false,1)],[],[]⟩
@[reducible] def o_Z67:Ty := (.cons .bool .nil)
noncomputable def sg_Z67:Sig := ⟨[(false,1),(false,1)],[],o_Z67,[(false,1)],[],[]⟩
@[reducible] def o_Z69:Ty := (.cons yI .nil)
noncomputable def sg_Z69:Sig := ⟨[(false,1),(false,1)],[],o_Z69,[(false,1)],[],[(.ptr (.cons yK .nil))]⟩
@[reducible] def o_Z68:Ty := (.cons yL .nil)
noncomputable def sg_Z68:Sig := ⟨[(false,1),(false,1)],[],o_Z68,[(false,1)],[.deep],[]⟩
@[reducible] def o_Z62:Ty := (.cons .bool .nil)
noncomputable def sg_Z62:Sig := ⟨[(false,1),(false,1)],[],o_Z62,[(false,1)],[],[]⟩
@[reducible] def o_Z64:Ty := (.cons yL .nil)
noncomputable def sg_Z64:Sig := ⟨[(false,1)],[],o_Z64,[(false,1)],[.deep],[]⟩
@[reducible] def o_Z38:Ty := (.cons yL .nil)
noncomputable def sg_Z38:Sig := ⟨[(false,1)],[],o_Z38,[(false,1)],[.deep],[]⟩
@[reducible] def o_Z8:Ty := (.cons .bool .nil)
noncomputable def sg_Z8:Sig := ⟨[(false,1)],[],o_Z8,[(false,1)],[],[]⟩
@[reducible] def o_Z11:Ty := (.cons yI .nil)
noncomputable def sg_Z11:Sig := ⟨[(false,1),(false,1)],[],o_Z11,[(false,1)],[],[]⟩
@[reducible] def o_Z46:Ty := (.cons .bool .nil)
noncomputable def sg_Z46:Sig := ⟨[(false,1),(false,1)],[],o_Z46,[(false,1)],[],[]⟩
@[reducible] def o_Z13:Ty := (.cons yK .nil)
noncomputable def sg_Z13:Sig := ⟨[(false,1)],[],o_Z13,[(false,1)],[.deep],[]⟩
@[reducible] def o_Z7:Ty := (.cons .bool .nil)
noncomputable def sg_Z7:Sig := ⟨[(false,1),(false,1),(false,1)],[],o_Z7,[(false,1)],[],[.nil,(.ptr (.cons yK .nil)),(.ptr (.cons yI .nil))]⟩
@[reducible] def o_Z16:Ty := (.cons yI .nil)
noncomputable def sg_Z16:Sig := ⟨[(true,1),(false,1)],[],o_Z16,[(false,1)],[],[]⟩
@[reducible] def o_Z12:Ty := (.cons yK .nil)
noncomputable def sg_Z12:Sig := ⟨[(false,1)],[],o_Z12,[(false,1)],[.deep],[]⟩
@[reducible] def o_Z60:Ty := (.cons yK .nil)
noncomputable def sg_Z60:Sig := ⟨[(false,1),(false,1)],[.io true,.imm],o_Z60,[],[],[]⟩
@[reducible] def o_Z43:Ty := (.cons yK .nil)
noncomputable def sg_Z43:Sig := ⟨[(false,1),(false,1)],[.take true,.imm],o_Z43,[(false,1)],[.deep],[]⟩
@[reducible] def o_Z52:Ty := (.cons .bool .nil)
noncomputable def sg_Z52:Sig := ⟨[(false,1),(false,1)],[],o_Z52,[(false,1)],[],[]⟩
@[reducible] def o_Z22:Ty := (.cons yL .nil)
noncomputable def sg_Z22:Sig := ⟨[(true,1),(false,1)],[],o_Z22,[(false,1)],[.deep],[]⟩
@[reducible] def o_Z51:Ty := (.cons .bool .nil)
noncomputable def sg_Z51:Sig := ⟨[(false,1),(false,1)],[],o_Z51,[(false,1)],[],[]⟩
@[reducible] def o_Z71:Ty := (.cons .bool .nil)
noncomputable def sg_Z71:Sig := ⟨[(false,1),(false,1)],[],o_Z71,[(false,1)],[],[]⟩
@[reducible] def o_Z42:Ty := (.cons yL .nil)
noncomputable def sg_Z42:Sig := ⟨[(false,1)],[],o_Z42,[(false,1)],[.deep],[]⟩
@[reducible] def o_Z65:Ty := (.cons .bool .nil)
noncomputable def sg_Z65:Sig := ⟨[(false,1),(false,1),(false,1)],[],o_Z65,[(false,1)],[],[]⟩
@[reducible] def o_Z66:Ty := (.cons .bool .nil)
noncomputable def sg_Z66:Sig := ⟨[(false,1),(false,1)],[],o_Z66,[(false,1)],[],[]⟩
@[reducible] def o_Z19:Ty := (.cons .bool .nil)
noncomputable def sg_Z19:Sig := ⟨[(false,1)],[],o_Z19,[(false,1)],[],[]⟩
@[reducible] def o_Z48:Ty := (.cons .bool .nil)
noncomputable def sg_Z48:Sig := ⟨[(false,1),(false,1)],[],o_Z48,[(false,1)],[],[]⟩
@[reducible] def o_Z9:Ty := (.cons .bool .nil)
noncomputable def sg_Z9:Sig := ⟨[(false,1)],[],o_Z9,[(false,1)],[],[]⟩
@[reducible] def o_Z20:Ty := (.cons .bool .nil)
noncomputable def sg_Z20:Sig := ⟨[(false,1)],[],o_Z20,[(false,1)],[],[]⟩
@[reducible] def o_Z2:Ty := (.cons yI .nil)
noncomputable def sg_Z2:Sig := ⟨[(false,1)],[],o_Z2,[(false,1)],[],[]⟩
@[reducible] def o_Z0:Ty := (.cons yI .nil)
noncomputable def sg_Z0:Sig := ⟨[(false,1),(false,1)],[],o_Z0,[(false,1)],[],[]⟩
@[reducible] def o_Z44:Ty := (.cons yI .nil)
noncomputable def sg_Z44:Sig := ⟨[(false,1),(false,1)],[],o_Z44,[(false,1)],[],[]⟩
@[reducible] def o_Z54:Ty := (.cons yI .nil)
noncomputable def sg_Z54:Sig := ⟨[(false,1),(false,1)],[],o_Z54,[(false,1)],[],[]⟩
@[reducible] def o_Z45:Ty := (.cons yL .nil)
noncomputable def sg_Z45:Sig := ⟨[(false,1)],[],o_Z45,[(false,1)],[.deep],[]⟩
@[reducible] def o_Z40:Ty := (.cons yI (.cons .bool .nil))
noncomputable def sg_Z40:Sig := ⟨[(false,1),(false,1),(false,1)],[],o_Z40,[(false,1),(false,1)],[],[]⟩
@[reducible] def o_Z17:Ty := (.cons .bool .nil)
noncomputable def sg_Z17:Sig := ⟨[(false,1),(false,1)],[],o_Z17,[(false,1)],[],[]⟩
@[reducible] def o_Z59:Ty := (.cons yI .nil)
noncomputable def sg_Z59:Sig := ⟨[(false,1),(false,1)],[],o_Z59,[(false,1)],[],[]⟩
@[reducible] def o_Z56:Ty := (.cons yI .nil)
noncomputable def sg_Z56:Sig := ⟨[(false,1),(false,1)],[],o_Z56,[(false,1)],[],[]⟩
@[reducible] def o_Z3:Ty := (.cons .bool .nil)
noncomputable def sg_Z3:Sig := ⟨[(false,1)],[],o_Z3,[(false,1)],[],[]⟩
@[reducible] def o_Z1:Ty := (.cons yI .nil)
noncomputable def sg_Z1:Sig := ⟨[(false,1),(false,1)],[],o_Z1,[(false,1)],[],[]⟩
@[reducible] def o_Z53:Ty := (.cons yL .nil)
noncomputable def sg_Z53:Sig := ⟨[(false,1),(false,1)],[.take true,.imm],o_Z53,[(false,1)],[.deep],[]⟩
@[reducible] def o_Z18:Ty := (.cons .bool .nil)
noncomputable def sg_Z18:Sig := ⟨[(false,1),(false,1)],[],o_Z18,[(false,1)],[],[.nil,(.ptr (.cons yL .nil))]⟩
@[reducible] def o_Z4:Ty := (.cons .bool .nil)
noncomputable def sg_Z4:Sig := ⟨[(false,1)],[],o_Z4,[(false,1)],[],[]⟩
noncomputable def pol_Z24:Pol := ⟨120,[(30,[some 118]),(33,[some 119])],[],[],[(1000050,⟨[1,4,5,6,7,8,9,10,50],[1,4,7,8,118,119],[],[],[],[],[]⟩),(1000076,⟨[1,4,5,6,8,76],[1,4,8,119],[],[],[],[],[]⟩),(1000108,⟨[8,12,108],[8,119],[],[],[],[],[]⟩)],[]⟩
noncomputable def pol_Z34:Pol := ⟨14,[],[],[],[],[]⟩
noncomputable def pol_Z61:Pol := ⟨27,[(12,[some 26]),(22,[some 26])],[(5,⟨[2,5,6],[2,5,26],[],[],[],[],[]⟩)],[],[],[]⟩
noncomputable def pol_Z37:Pol := ⟨11,[(6,[some 10])],[],[],[],[]⟩
noncomputable def pol_Z5:Pol := ⟨32,[(13,[some 31]),(25,[some 31])],[(6,⟨[1,2,5,6],[1,2,31],[],[],[],[],[]⟩)],[],[],[]⟩
noncomputable def pol_Z25:Pol := ⟨13,[],[],[],[],[]⟩
noncomputable def pol_Z31:Pol := ⟨12,[],[],[],[],[]⟩
noncomputable def pol_Z28:Pol := ⟨14,[],[],[],[],[]⟩
noncomputable def pol_Z36:Pol := ⟨29,[],[(5,⟨[0,1,5],[],[],[],[],[],[]⟩)],[],[],[]⟩
noncomputable def pol_Z70:Pol := ⟨66,[],[(4,⟨[0,3],[],[],[],[],[],[]⟩),(10,⟨[0,3,4,5],[],[],[],[],[],[]⟩)],[],[(1000047,⟨[0,3,4,47],[],[],[],[],[],[]⟩),(1000056,⟨[0,3,4,5,56],[],[],[],[],[],[]⟩)],[]⟩
noncomputable def pol_Z75:Pol := ⟨39,[(31,[some 38])],[(3,⟨[0,1,4,5,6],[4,5,7],[],[],[],[],[]⟩)],[],[],[]⟩
noncomputable def pol_Z74:Pol := ⟨38,[],[(3,⟨[0,3,4],[6],[],[],[],[],[]⟩)],[],[],[]⟩
noncomputable def pol_Z39:Pol := ⟨25,[(20,[some 24])],[(3,⟨[0,3,4],[7],[],[],[],[],[]⟩)],[],[],[]⟩
noncomputable def pol_Z6:Pol := ⟨41,[],[(2,⟨[1,6,7,8],[1],[],[],[1],[],[]⟩)],[],[(1000030,⟨[1,3,4,6,7,8,30],[1,3],[],[],[],[],[]⟩)],[]⟩
noncomputable def pol_Z15:Pol := ⟨14,[(5,[some 12]),(9,[some 13])],[],[],[],[]⟩
noncomputable def pol_Z14:Pol := ⟨29,[],[(3,⟨[1,3,8,9],[1,25],[(3,25,yL,true)],[],[],[],[]⟩)],[],[],[]⟩
noncomputable def pol_Z10:Pol := ⟨30,[(26,[some 29])],[(3,⟨[1,4,5,9,10,11],[4,23],[(5,23,yL,true)],[],[],[23],[]⟩)],[],[],[]⟩
noncomputable def pol_Z27:Pol := ⟨29,[],[(4,⟨[0,1,5],[],[],[],[],[],[]⟩)],[],[],[]⟩
noncomputable def pol_Z30:Pol := ⟨23,[],[(2,⟨[0,1,5],[],[],[],[],[],[]⟩)],[],[],[]⟩
noncomputable def pol_Z73:Pol := ⟨33,[],[(3,⟨[0,1,5,6],[7],[],[],[],[],[]⟩)],[],[],[]⟩
noncomputable def pol_Z63:Pol := ⟨18,[],[],[],[],[]⟩
noncomputable def pol_Z23:Pol := ⟨18,[],[],[],[],[]⟩
noncomputable def pol_Z21:Pol := ⟨6,[],[],[],[],[]⟩
noncomputable def pol_Z26:Pol := ⟨28,[],[(4,⟨[0,1,5],[],[],[],[],[],[]⟩)],[],[],[]⟩
noncomputable def pol_Z32:Pol := ⟨21,[],[(2,⟨[0,1,5],[19],[],[],[],[],[]⟩)],[],[],[]⟩
noncomputable def pol_Z29:Pol := ⟨23,[],[(2,⟨[0,1,5],[],[],[],[],[],[]⟩)],[],[],[]⟩
noncomputable def pol_Z35:Pol := ⟨14,[],[],[],[],[]⟩
noncomputable def pol_Z72:Pol := ⟨11,[],[],[],[],[]⟩
noncomputable def pol_Z67:Pol := ⟨42,[],[(4,⟨[0,1,5],[],[],[],[],[],[]⟩)],[],[],[]⟩
noncomputable def pol_Z69:Pol := ⟨27,[],[(2,⟨[0,1,5],[],[],[],[],[],[]⟩)],[],[],[]⟩
noncomputable def pol_Z68:Pol := ⟨19,[(9,[some 18])],[],[],[],[]⟩
noncomputable def pol_Z62:Pol := ⟨20,[],[(2,⟨[0,1,5],[],[],[],[],[],[]⟩)],[],[],[]⟩
noncomputable def pol_Z64:Pol := ⟨7,[],[],[],[],[]⟩
noncomputable def pol_Z38:Pol := ⟨23,[],[(3,⟨[0,3,4],[7],[],[],[],[],[]⟩)],[],[],[]⟩
noncomputable def pol_Z8:Pol := ⟨21,[],[],[],[],[]⟩
noncomputable def pol_Z11:Pol := ⟨17,[],[],[],[],[]⟩
noncomputable def pol_Z46:Pol := ⟨11,[],[],[],[],[]⟩
noncomputable def pol_Z13:Pol := ⟨29,[(22,[some 28])],[(3,⟨[0,3,6,7],[24],[(3,24,yL,true)],[],[],[],[]⟩)],[],[],[]⟩
noncomputable def pol_Z7:Pol := ⟨16,[],[],[],[],[]⟩
noncomputable def pol_Z16:Pol := ⟨19,[],[],[],[],[]⟩
noncomputable def pol_Z12:Pol := ⟨21,[(14,[some 20])],[(3,⟨[3,6,7,8],[16],[(3,16,yL,true)],[],[],[],[]⟩)],[],[],[]⟩
noncomputable def pol_Z52:Pol := ⟨28,[],[(4,⟨[0,1,12,13],[],[],[],[],[],[]⟩)],[],[],[]⟩
noncomputable def pol_Z22:Pol := ⟨31,[],[(3,⟨[1,2,5,9,10,11],[2,26],[(5,26,yI,true)],[],[],[],[]⟩)],[],[],[]⟩
noncomputable def pol_Z51:Pol := ⟨11,[],[],[],[],[]⟩
noncomputable def pol_Z71:Pol := ⟨21,[],[(2,⟨[0,1,5],[],[],[],[],[],[]⟩)],[],[],[]⟩
noncomputable def pol_Z42:Pol := ⟨9,[],[],[],[(1000004,⟨[0,4],[],[],[],[],[],[]⟩)],[]⟩
noncomputable def pol_Z65:Pol := ⟨41,[],[(2,⟨[0,1,2,7],[],[],[],[],[],[]⟩)],[],[(1000037,⟨[0,1,2,7,37],[],[],[],[],[],[]⟩)],[]⟩
noncomputable def pol_Z66:Pol := ⟨28,[],[(4,⟨[0,1,5],[],[],[],[],[],[]⟩)],[],[],[]⟩
noncomputable def pol_Z19:Pol := ⟨21,[],[(2,⟨[0,3],[],[],[],[],[],[]⟩)],[],[],[]⟩
noncomputable def pol_Z48:Pol := ⟨11,[],[],[],[],[]⟩
noncomputable def pol_Z9:Pol := ⟨7,[],[],[],[],[]⟩
noncomputable def pol_Z20:Pol := ⟨6,[],[],[],[],[]⟩
noncomputable def pol_Z2:Pol := ⟨19,[],[(3,⟨[3,6,7,8],[],[],[],[],[],[]⟩)],[],[],[]⟩
noncomputable def pol_Z0:Pol := ⟨22,[],[],[],[],[]⟩
noncomputable def pol_Z44:Pol := ⟨38,[],[(2,⟨[0,1,9,10,11],[],[],[],[],[],[]⟩)],[],[],[]⟩
noncomputable def pol_Z54:Pol := ⟨21,[],[(2,⟨[0,1,7,8],[],[],[],[],[],[]⟩)],[],[],[]⟩
noncomputable def pol_Z45:Pol := ⟨38,[(24,[some 37])],[(3,⟨[0,3,9,10,11],[],[],[],[],[],[]⟩),(11,⟨[6,25,26,27],[37],[],[],[],[],[]⟩)],[],[],[]⟩
noncomputable def pol_Z40:Pol := ⟨52,[],[(3,⟨[0,1,2,8,9,10],[],[],[],[],[],[]⟩)],[],[],[]⟩
noncomputable def pol_Z17:Pol := ⟨11,[],[],[],[],[]⟩
noncomputable def pol_Z59:Pol := ⟨21,[],[(2,⟨[0,1,7,8],[],[],[],[],[],[]⟩)],[],[],[]⟩
noncomputable def pol_Z56:Pol := ⟨21,[],[(2,⟨[0,1,7,8],[],[],[],[],[],[]⟩)],[],[],[]⟩
noncomputable def pol_Z3:Pol := ⟨7,[],[],[],[],[]⟩
noncomputable def pol_Z1:Pol := ⟨22,[],[],[],[],[]⟩
noncomputable def pol_Z18:Pol := ⟨10,[],[],[],[],[]⟩
noncomputable def pol_Z4:Pol := ⟨7,[],[],[],[],[]⟩
noncomputable def sigL:List (Option Sig) := [none,none,none,some sg_Z24,none,none,some sg_Z34,some sg_Z61,some sg_Z37,some sg_Z5,some sg_Z25,some sg_Z31,some sg_Z28,none,none,none,none,none,none,none,some sg_Z36,some sg_Z70,some sg_Z75,some sg_Z74,some sg_Z39,some sg_Z6,some sg_Z15,some sg_Z14,some sg_Z10,some sg_Z27,some sg_Z33,some sg_Z30,none,some sg_Z73,none,none,some sg_Z63,none,none,some sg_Z23,some sg_Z21,none,none,none,none,some sg_Z26,none,some sg_Z32,none,some sg_Z29,none,some sg_Z35,some sg_Z72,some sg_Z67,some sg_Z69,some sg_Z68,some sg_Z62,some sg_Z64,some sg_Z38,some sg_Z8,some sg_Z11,some sg_Z46,some sg_Z13,some sg_Z7,some sg_Z16,some sg_Z12,some sg_Z60,some sg_Z43,some sg_Z52,some sg_Z22,some sg_Z51,some sg_Z71,none,none,none,none,some sg_Z42,none,none,none,none,none,some sg_Z65,some sg_Z66,some sg_Z19,some sg_Z48,some sg_Z9,some sg_Z20,some sg_Z2,some sg_Z0,some sg_Z44,some sg_Z54,some sg_Z45,some sg_Z40,none,none,some sg_Z17,some sg_Z59,none,none,some sg_Z56,some sg_Z3,some sg_Z1,some sg_Z53,none,none,none,none,none,none,none,none,none,none,some sg_Z18,some sg_Z4,none,none,none,none,none,none,none,none,none,none,none,none,none,none,none,none,none,none,none,none,none,none,none]
noncomputable def fnL:List (Option (Func × Pol)) := [none,none,none,some (F_Z24,pol_Z24),none,none,some (F_Z34,pol_Z34),some (F_Z61,pol_Z61),some (F_Z37,pol_Z37),some (F_Z5,pol_Z5),some (F_Z25,pol_Z25),some (F_Z31,pol_Z31),some (F_Z28,pol_Z28),none,none,none,none,none,none,none,some (F_Z36,pol_Z36),some (F_Z70,pol_Z70),some (F_Z75,pol_Z75),some (F_Z74,pol_Z74),some (F_Z39,pol_Z39),some (F_Z6,pol_Z6),some (F_Z15,pol_Z15),some (F_Z14,pol_Z14),some (F_Z10,pol_Z10),some (F_Z27,pol_Z27),none,some (F_Z30,pol_Z30),none,some (F_Z73,pol_Z73),none,none,some (F_Z63,pol_Z63),none,none,some (F_Z23,pol_Z23),some (F_Z21,pol_Z21),none,none,none,none,some (F_Z26,pol_Z26),none,some (F_Z32,pol_Z32),none,some (F_Z29,pol_Z29),none,some (F_Z35,pol_Z35),some (F_Z72,pol_Z72),some (F_Z67,pol_Z67),some (F_Z69,pol_Z69),some (F_Z68,pol_Z68),some (F_Z62,pol_Z62),some (F_Z64,pol_Z64),some (F_Z38,pol_Z38),some (F_Z8,pol_Z8),some (F_Z11,pol_Z11),some (F_Z46,pol_Z46),some (F_Z13,pol_Z13),some (F_Z7,pol_Z7),some (F_Z16,pol_Z16),some (F_Z12,pol_Z12),none,none,some (F_Z52,pol_Z52),some (F_Z22,pol_Z22),some (F_Z51,pol_Z51),some (F_Z71,pol_Z71),none,none,none,none,some (F_Z42,pol_Z42),none,none,none,none,none,some (F_Z65,pol_Z65),some (F_Z66,pol_Z66),some (F_Z19,pol_Z19),some (F_Z48,pol_Z48),some (F_Z9,pol_Z9),some (F_Z20,pol_Z20),some (F_Z2,pol_Z2),some (F_Z0,pol_Z0),some (F_Z44,pol_Z44),some (F_Z54,pol_Z54),some (F_Z45,pol_Z45),some (F_Z40,pol_Z40),none,none,some (F_Z17,pol_Z17),some (F_Z59,pol_Z59),none,none,some (F_Z56,pol_Z56),some (F_Z3,pol_Z3),some (F_Z1,pol_Z1),none,none,none,none,none,none,none,none,none,none,none,some (F_Z18,pol_Z18),some (F_Z4,pol_Z4),none,none,none,none,none,none,none,none,none,none,none,none,none,none,none,none,none,none,none,none,none,none,none]
noncomputable def primL:List (Option (Run → List Dv → Option Dv)) := [none,none,none,none,none,none,none,none,none,none,none,none,none,none,none,none,none,none,none,none,none,none,none,none,none,none,none,none,none,none,some (pMarkSS n_Z32),none,none,none,none,none,none,none,none,none,none,none,none,none,none,none,none,none,none,none,none,none,none,none,none,none,none,none,none,none,none,none,none,none,none,none,some (pSortF n_Z11),some (pCompF n_Z52),none,none,none,none,none,none,none,none,none,none,none,none,none,none,none,none,none,none,none,none,none,none,none,none,none,none,none,none,none,none,none,none,none,none,none,some (pGrow yI),none,none,none,none,none,none,none,none,none,none,none,none,none,none,none,none,none,none,none,none,none,none,none,none,none,none,none,none,none,none,none,none,none,none,none]
noncomputable def E:Env := { P := Try.prog,fn := fun f => fnL.getD f none,prim := fun f => primL.getD f none,sig := fun f => sigL.getD f none }
theorem sig_laws_FnExactGreedyCollapse_eq:E.sig n_Z24 = some sg_Z24 := rfl
theorem run_Z24 (n:Nat) (args:List Dv):run E (n + 1) n_Z24 args = evFn E (mkR (run E n)) sg_Z24 pol_Z24 F_Z24 n args := rfl
theorem sig_laws_szComplex_eq:E.sig n_Z34 = some sg_Z34 := rfl
theorem run_Z34 (n:Nat) (args:List Dv):run E (n + 1) n_Z34 args = evFn E (mkR (run E n)) sg_Z34 pol_Z34 F_Z34 n args := rfl
theorem sig_spec_GreedyCollapse_eq:E.sig n_Z61 = some sg_Z61 := rfl
theorem run_Z61 (n:Nat) (args:List Dv):run E (n + 1) n_Z61 args = evFn E (mkR (run E n)) sg_Z61 pol_Z61 F_Z61 n args := rfl
theorem sig_laws_toComplex_eq:E.sig n_Z37 = some sg_Z37 := rfl
theorem run_Z37 (n:Nat) (args:List Dv):run E (n + 1) n_Z37 args = evFn E (mkR (run E n)) sg_Z37 pol_Z37 F_Z37 n args := rfl
theorem sig_impl_GreedyCollapse_eq:E.sig n_Z5 = some sg_Z5 := rfl
theorem run_Z5 (n:Nat) (args:List Dv):run E (n + 1) n_Z5 args = evFn E (mkR (run E n)) sg_Z5 pol_Z5 F_Z5 n args := rfl
theorem sig_laws_eqComplex_eq:E.sig n_Z25 = some sg_Z25 := rfl
theorem run_Z25 (n:Nat) (args:List Dv):run E (n + 1) n_Z25 args = evFn E (mkR (run E n)) sg_Z25 pol_Z25 F_Z25 n args := rfl
theorem sig_laws_markComplex_eq:E.sig n_Z31 = some sg_Z31 := rfl
theorem run_Z31 (n:Nat) (args:List Dv):run E (n + 1) n_Z31 args = evFn E (mkR (run E n)) sg_Z31 pol_Z31 F_Z31 n args := rfl
theorem sig_laws_heldComplex_eq:E.sig n_Z28 = some sg_Z28 := rfl
theorem run_Z28 (n:Nat) (args:List Dv):run E (n + 1) n_Z28 args = evFn E (mkR (run E n)) sg_Z28 pol_Z28 F_Z28 n args := rfl
theorem sig_laws_szInt64SS_eq:E.sig n_Z36 = some sg_Z36 := rfl
theorem run_Z36 (n:Nat) (args:List Dv):run E (n + 1) n_Z36 args = evFn E (mkR (run E n)) sg_Z36 pol_Z36 F_Z36 n args := rfl
theorem sig_spec_l05Ok_eq:E.sig n_Z70 = some sg_Z70 := rfl
theorem run_Z70 (n:Nat) (args:List Dv):run E (n + 1) n_Z70 args = evFn E (mkR (run E n)) sg_Z70 pol_Z70 F_Z70 n args := rfl
theorem sig_spec_l08Without_eq:E.sig n_Z75 = some sg_Z75 := rfl
theorem run_Z75 (n:Nat) (args:List Dv):run E (n + 1) n_Z75 args = evFn E (mkR (run E n)) sg_Z75 pol_Z75 F_Z75 n args := rfl
theorem sig_spec_l08Free_eq:E.sig n_Z74 = some sg_Z74 := rfl
theorem run_Z74 (n:Nat) (args:List Dv):run E (n + 1) n_Z74 args = evFn E (mkR (run E n)) sg_Z74 pol_Z74 F_Z74 n args := rfl
theorem sig_laws_toInt64SS_eq:E.sig n_Z39 = some sg_Z39 := rfl
theorem run_Z39 (n:Nat) (args:List Dv):run E (n + 1) n_Z39 args = evFn E (mkR (run E n)) sg_Z39 pol_Z39 F_Z39 n args := rfl
theorem sig_impl_ValidComplex_eq:E.sig n_Z6 = some sg_Z6 := rfl
theorem run_Z6 (n:Nat) (args:List Dv):run E (n + 1) n_Z6 args = evFn E (mkR (run E n)) sg_Z6 pol_Z6 F_Z6 n args := rfl
theorem sig_impl_inOrder_eq:E.sig n_Z15 = some sg_Z15 := rfl
theorem run_Z15 (n:Nat) (args:List Dv):run E (n + 1) n_Z15 args = evFn E (mkR (run E n)) sg_Z15 pol_Z15 F_Z15 n args := rfl
theorem sig_impl_freePairs_eq:E.sig n_Z14 = some sg_Z14 := rfl
theorem run_Z14 (n:Nat) (args:List Dv):run E (n + 1) n_Z14 args = evFn E (mkR (run E n)) sg_Z14 pol_Z14 F_Z14 n args := rfl
theorem sig_impl_collapsed_eq:E.sig n_Z10 = some sg_Z10 := rfl
theorem run_Z10 (n:Nat) (args:List Dv):run E (n + 1) n_Z10 args = evFn E (mkR (run E n)) sg_Z10 pol_Z10 F_Z10 n args := rfl
theorem sig_laws_eqInt64SS_eq:E.sig n_Z27 = some sg_Z27 := rfl
theorem run_Z27 (n:Nat) (args:List Dv):run E (n + 1) n_Z27 args = evFn E (mkR (run E n)) sg_Z27 pol_Z27 F_Z27 n args := rfl
theorem sig_laws_markInt64SS_eq:E.sig n_Z33 = some sg_Z33 := rfl
theorem sig_laws_heldInt64SS_eq:E.sig n_Z30 = some sg_Z30 := rfl
theorem run_Z30 (n:Nat) (args:List Dv):run E (n + 1) n_Z30 args = evFn E (mkR (run E n)) sg_Z30 pol_Z30 F_Z30 n args := rfl
theorem sig_spec_l05Star_eq:E.sig n_Z73 = some sg_Z73 := rfl
theorem run_Z73 (n:Nat) (args:List Dv):run E (n + 1) n_Z73 args = evFn E (mkR (run E n)) sg_Z73 pol_Z73 F_Z73 n args := rfl
theorem sig_spec_l00In_eq:E.sig n_Z63 = some sg_Z63 := rfl
theorem run_Z63 (n:Nat) (args:List Dv):run E (n + 1) n_Z63 args = evFn E (mkR (run E n)) sg_Z63 pol_Z63 F_Z63 n args := rfl
theorem sig_impl_within_eq:E.sig n_Z23 = some sg_Z23 := rfl
theorem run_Z23 (n:Nat) (args:List Dv):run E (n + 1) n_Z23 args = evFn E (mkR (run E n)) sg_Z23 pol_Z23 F_Z23 n args := rfl
theorem sig_impl_size_Sint64_eq:E.sig n_Z21 = some sg_Z21 := rfl
theorem run_Z21 (n:Nat) (args:List Dv):run E (n + 1) n_Z21 args = evFn E (mkR (run E n)) sg_Z21 pol_Z21 F_Z21 n args := rfl
theorem sig_laws_eqInt64S_eq:E.sig n_Z26 = some sg_Z26 := rfl
theorem run_Z26 (n:Nat) (args:List Dv):run E (n + 1) n_Z26 args = evFn E (mkR (run E n)) sg_Z26 pol_Z26 F_Z26 n args := rfl
theorem sig_laws_markInt64S_eq:E.sig n_Z32 = some sg_Z32 := rfl
theorem run_Z32 (n:Nat) (args:List Dv):run E (n + 1) n_Z32 args = evFn E (mkR (run E n)) sg_Z32 pol_Z32 F_Z32 n args := rfl
theorem sig_laws_heldInt64S_eq:E.sig n_Z29 = some sg_Z29 := rfl
theorem run_Z29 (n:Nat) (args:List Dv):run E (n + 1) n_Z29 args = evFn E (mkR (run E n)) sg_Z29 pol_Z29 F_Z29 n args := rfl
theorem sig_laws_szInt64S_eq:E.sig n_Z35 = some sg_Z35 := rfl
theorem run_Z35 (n:Nat) (args:List Dv):run E (n + 1) n_Z35 args = evFn E (mkR (run E n)) sg_Z35 pol_Z35 F_Z35 n args := rfl
theorem sig_spec_l05Simplex_eq:E.sig n_Z72 = some sg_Z72 := rfl
theorem run_Z72 (n:Nat) (args:List Dv):run E (n + 1) n_Z72 args = evFn E (mkR (run E n)) sg_Z72 pol_Z72 F_Z72 n args := rfl
theorem sig_spec_l05Before_eq:E.sig n_Z67 = some sg_Z67 := rfl
theorem run_Z67 (n:Nat) (args:List Dv):run E (n + 1) n_Z67 args = evFn E (mkR (run E n)) sg_Z67 pol_Z67 F_Z67 n args := rfl
theorem sig_spec_l05Find_eq:E.sig n_Z69 = some sg_Z69 := rfl
theorem run_Z69 (n:Nat) (args:List Dv):run E (n + 1) n_Z69 args = evFn E (mkR (run E n)) sg_Z69 pol_Z69 F_Z69 n args := rfl
theorem sig_spec_l05Drop_eq:E.sig n_Z68 = some sg_Z68 := rfl
theorem run_Z68 (n:Nat) (args:List Dv):run E (n + 1) n_Z68 args = evFn E (mkR (run E n)) sg_Z68 pol_Z68 F_Z68 n args := rfl
theorem sig_spec_l00Has_eq:E.sig n_Z62 = some sg_Z62 := rfl
theorem run_Z62 (n:Nat) (args:List Dv):run E (n + 1) n_Z62 args = evFn E (mkR (run E n)) sg_Z62 pol_Z62 F_Z62 n args := rfl
theorem sig_spec_l00Own_eq:E.sig n_Z64 = some sg_Z64 := rfl
theorem run_Z64 (n:Nat) (args:List Dv):run E (n + 1) n_Z64 args = evFn E (mkR (run E n)) sg_Z64 pol_Z64 F_Z64 n args := rfl
theorem sig_laws_toInt64S_eq:E.sig n_Z38 = some sg_Z38 := rfl
theorem run_Z38 (n:Nat) (args:List Dv):run E (n + 1) n_Z38 args = evFn E (mkR (run E n)) sg_Z38 pol_Z38 F_Z38 n args := rfl
theorem sig_impl_ValidSimplex_eq:E.sig n_Z8 = some sg_Z8 := rfl
theorem run_Z8 (n:Nat) (args:List Dv):run E (n + 1) n_Z8 args = evFn E (mkR (run E n)) sg_Z8 pol_Z8 F_Z8 n args := rfl
theorem sig_impl_compareSimplices_eq:E.sig n_Z11 = some sg_Z11 := rfl
theorem run_Z11 (n:Nat) (args:List Dv):run E (n + 1) n_Z11 args = evFn E (mkR (run E n)) sg_Z11 pol_Z11 F_Z11 n args := rfl
theorem sig_slices_ContainsFunc_SSint64_Sint64_eq:E.sig n_Z46 = some sg_Z46 := rfl
theorem run_Z46 (n:Nat) (args:List Dv):run E (n + 1) n_Z46 args = evFn E (mkR (run E n)) sg_Z46 pol_Z46 F_Z46 n args := rfl
theorem sig_impl_facesOf_eq:E.sig n_Z13 = some sg_Z13 := rfl
theorem run_Z13 (n:Nat) (args:List Dv):run E (n + 1) n_Z13 args = evFn E (mkR (run E n)) sg_Z13 pol_Z13 F_Z13 n args := rfl
theorem sig_impl_ValidComplex_1_eq:E.sig n_Z7 = some sg_Z7 := rfl
theorem run_Z7 (n:Nat) (args:List Dv):run E (n + 1) n_Z7 args = evFn E (mkR (run E n)) sg_Z7 pol_Z7 F_Z7 n args := rfl
theorem sig_impl_indexOf_eq:E.sig n_Z16 = some sg_Z16 := rfl
theorem run_Z16 (n:Nat) (args:List Dv):run E (n + 1) n_Z16 args = evFn E (mkR (run E n)) sg_Z16 pol_Z16 F_Z16 n args := rfl
theorem sig_impl_copyLists_eq:E.sig n_Z12 = some sg_Z12 := rfl
theorem run_Z12 (n:Nat) (args:List Dv):run E (n + 1) n_Z12 args = evFn E (mkR (run E n)) sg_Z12 pol_Z12 F_Z12 n args := rfl
theorem sig_slices_SortFunc_SSint64_Sint64_eq:E.sig n_Z60 = some sg_Z60 := rfl
theorem sig_slices_CompactFunc_SSint64_Sint64_eq:E.sig n_Z43 = some sg_Z43 := rfl
theorem sig_slices_Equal_Sint64_int64_eq:E.sig n_Z52 = some sg_Z52 := rfl
theorem run_Z52 (n:Nat) (args:List Dv):run E (n + 1) n_Z52 args = evFn E (mkR (run E n)) sg_Z52 pol_Z52 F_Z52 n args := rfl
theorem sig_impl_starOf_eq:E.sig n_Z22 = some sg_Z22 := rfl
theorem run_Z22 (n:Nat) (args:List Dv):run E (n + 1) n_Z22 args = evFn E (mkR (run E n)) sg_Z22 pol_Z22 F_Z22 n args := rfl
theorem sig_slices_Contains_Sint64_int64_eq:E.sig n_Z51 = some sg_Z51 := rfl
theorem run_Z51 (n:Nat) (args:List Dv):run E (n + 1) n_Z51 args = evFn E (mkR (run E n)) sg_Z51 pol_Z51 F_Z51 n args := rfl
theorem sig_spec_l05Part_eq:E.sig n_Z71 = some sg_Z71 := rfl
theorem run_Z71 (n:Nat) (args:List Dv):run E (n + 1) n_Z71 args = evFn E (mkR (run E n)) sg_Z71 pol_Z71 F_Z71 n args := rfl
theorem sig_slices_Clone_Sint64_int64_eq:E.sig n_Z42 = some sg_Z42 := rfl
theorem run_Z42 (n:Nat) (args:List Dv):run E (n + 1) n_Z42 args = evFn E (mkR (run E n)) sg_Z42 pol_Z42 F_Z42 n args := rfl
theorem sig_spec_l00Rises_eq:E.sig n_Z65 = some sg_Z65 := rfl
theorem run_Z65 (n:Nat) (args:List Dv):run E (n + 1) n_Z65 args = evFn E (mkR (run E n)) sg_Z65 pol_Z65 F_Z65 n args := rfl
theorem sig_spec_l00Same_eq:E.sig n_Z66 = some sg_Z66 := rfl
theorem run_Z66 (n:Nat) (args:List Dv):run E (n + 1) n_Z66 args = evFn E (mkR (run E n)) sg_Z66 pol_Z66 F_Z66 n args := rfl
theorem sig_impl_isRising_eq:E.sig n_Z19 = some sg_Z19 := rfl
theorem run_Z19 (n:Nat) (args:List Dv):run E (n + 1) n_Z19 args = evFn E (mkR (run E n)) sg_Z19 pol_Z19 F_Z19 n args := rfl
theorem sig_slices_ContainsFunc_Sint64_int64_eq:E.sig n_Z48 = some sg_Z48 := rfl
theorem run_Z48 (n:Nat) (args:List Dv):run E (n + 1) n_Z48 args = evFn E (mkR (run E n)) sg_Z48 pol_Z48 F_Z48 n args := rfl
theorem sig_impl_ValidSimplex_1_eq:E.sig n_Z9 = some sg_Z9 := rfl
theorem run_Z9 (n:Nat) (args:List Dv):run E (n + 1) n_Z9 args = evFn E (mkR (run E n)) sg_Z9 pol_Z9 F_Z9 n args := rfl
theorem sig_impl_isVertex_eq:E.sig n_Z20 = some sg_Z20 := rfl
theorem run_Z20 (n:Nat) (args:List Dv):run E (n + 1) n_Z20 args = evFn E (mkR (run E n)) sg_Z20 pol_Z20 F_Z20 n args := rfl
theorem sig_cmp_Or_int_eq:E.sig n_Z2 = some sg_Z2 := rfl
theorem run_Z2 (n:Nat) (args:List Dv):run E (n + 1) n_Z2 args = evFn E (mkR (run E n)) sg_Z2 pol_Z2 F_Z2 n args := rfl
theorem sig_cmp_Compare_int_eq:E.sig n_Z0 = some sg_Z0 := rfl
theorem run_Z0 (n:Nat) (args:List Dv):run E (n + 1) n_Z0 args = evFn E (mkR (run E n)) sg_Z0 pol_Z0 F_Z0 n args := rfl
theorem sig_slices_Compare_Sint64_int64_eq:E.sig n_Z44 = some sg_Z44 := rfl
theorem run_Z44 (n:Nat) (args:List Dv):run E (n + 1) n_Z44 args = evFn E (mkR (run E n)) sg_Z44 pol_Z44 F_Z44 n args := rfl
theorem sig_slices_IndexFunc_SSint64_Sint64_eq:E.sig n_Z54 = some sg_Z54 := rfl
theorem run_Z54 (n:Nat) (args:List Dv):run E (n + 1) n_Z54 args = evFn E (mkR (run E n)) sg_Z54 pol_Z54 F_Z54 n args := rfl
theorem sig_slices_Concat_Sint64_int64_eq:E.sig n_Z45 = some sg_Z45 := rfl
theorem run_Z45 (n:Nat) (args:List Dv):run E (n + 1) n_Z45 args = evFn E (mkR (run E n)) sg_Z45 pol_Z45 F_Z45 n args := rfl
theorem sig_slices_BinarySearchFunc_SSint64_Sint64_Sint64_eq:E.sig n_Z40 = some sg_Z40 := rfl
theorem run_Z40 (n:Nat) (args:List Dv):run E (n + 1) n_Z40 args = evFn E (mkR (run E n)) sg_Z40 pol_Z40 F_Z40 n args := rfl
theorem sig_impl_isFace_eq:E.sig n_Z17 = some sg_Z17 := rfl
theorem run_Z17 (n:Nat) (args:List Dv):run E (n + 1) n_Z17 args = evFn E (mkR (run E n)) sg_Z17 pol_Z17 F_Z17 n args := rfl
theorem sig_slices_Index_Sint64_int64_eq:E.sig n_Z59 = some sg_Z59 := rfl
theorem run_Z59 (n:Nat) (args:List Dv):run E (n + 1) n_Z59 args = evFn E (mkR (run E n)) sg_Z59 pol_Z59 F_Z59 n args := rfl
theorem sig_slices_IndexFunc_Sint64_int64_eq:E.sig n_Z56 = some sg_Z56 := rfl
theorem run_Z56 (n:Nat) (args:List Dv):run E (n + 1) n_Z56 args = evFn E (mkR (run E n)) sg_Z56 pol_Z56 F_Z56 n args := rfl
theorem sig_cmp_isNaN_int_eq:E.sig n_Z3 = some sg_Z3 := rfl
theorem run_Z3 (n:Nat) (args:List Dv):run E (n + 1) n_Z3 args = evFn E (mkR (run E n)) sg_Z3 pol_Z3 F_Z3 n args := rfl
theorem sig_cmp_Compare_int64_eq:E.sig n_Z1 = some sg_Z1 := rfl
theorem run_Z1 (n:Nat) (args:List Dv):run E (n + 1) n_Z1 args = evFn E (mkR (run E n)) sg_Z1 pol_Z1 F_Z1 n args := rfl
theorem sig_slices_Grow_Sint64_int64_eq:E.sig n_Z53 = some sg_Z53 := rfl
theorem sig_impl_isFace_1_eq:E.sig n_Z18 = some sg_Z18 := rfl
theorem run_Z18 (n:Nat) (args:List Dv):run E (n + 1) n_Z18 args = evFn E (mkR (run E n)) sg_Z18 pol_Z18 F_Z18 n args := rfl
theorem sig_cmp_isNaN_int64_eq:E.sig n_Z4 = some sg_Z4 := rfl
theorem run_Z4 (n:Nat) (args:List Dv):run E (n + 1) n_Z4 args = evFn E (mkR (run E n)) sg_Z4 pol_Z4 F_Z4 n args := rfl
@[reducible] noncomputable def eC (R:Run) (q:Pol) (N:Nat) (l:List Nat) (F:Func) := evCode E R q N (sub l (bodyOf F))
@[reducible] noncomputable def kB (R:Run) (q:Pol) (k:Nat) (K:Kt) := kBlk (maskAt R q.blkM k) k K
@[reducible] noncomputable def kS (R:Run) (q:Pol) (k N:Nat) (l:List Nat) (F:Func) (K:Kt) := kSeq (maskAt R q.seqM k) (evCode E R q N (sub l (bodyOf F))) K
@[reducible] noncomputable def kL (R:Run) (q:Pol) (k N:Nat) (l:List Nat) (F:Func) (n:Nat) (K:Kt) := kLoop (evCode E R q N (sub l (bodyOf F))) (maskAt R q.loopM k) n K
@[reducible] noncomputable def lC (R:Run) (q:Pol) (k N:Nat) (l:List Nat) (F:Func) (n:Nat) (s:Ve.St) (K:Kt) := loopC (evCode E R q N (sub l (bodyOf F))) (maskAt R q.loopM k) n s K
end VeT

open Go Go.Proofs Ve
set_option linter.unusedVariables false
set_option maxRecDepth 100000
namespace VeT
@[reducible] noncomputable def q0_0 (R:Run) (N:Nat):=kS R pol_Z70 5 N [1,1,0,1,0,0,1,1] F_Z70
@[reducible] noncomputable def q0_1 (R:Run) (N:Nat):=kS R pol_Z70 14 N [1,1,1] F_Z70
@[reducible] noncomputable def q0_2 (R:Run) (N:Nat):=kS R pol_Z56 7 N [1,1] F_Z56
@[reducible] noncomputable def q0_3 (R:Run) (N:Nat):=kL R pol_Z70 4 N [1,1,0,1,0,0] F_Z70
@[reducible] noncomputable def q0_4 (R:Run) (N:Nat):=lC R pol_Z56 2 N [1,0,1,0,0] F_Z56
theorem Z35.ev (R:Run) (N:Nat) (a0:(List Int)) (a1:Int):evFn E R sg_Z35 pol_Z35 F_Z35 N [⟨yL,a0⟩,⟨yI,a1⟩] = (bif (decide ((w64 (a1 - (List.length a0:Int))) < (0:Int))) then some ⟨o_Z35,((-1:Int),())⟩ else some ⟨o_Z35,((w64 (a1 - (List.length a0:Int))),())⟩) := by kernel_rfl
noncomputable def Z36.l0 (R:Run) (N n:Nat) (a:vK) (b e:Int):Option Dv := R.w (some ⟨(.c (.d yK a)::(.c (.d yI b)::(zd 3 (.c (.d yI e)::(zd 21 []))))),(zo 29 [])⟩) fun st => lC R pol_Z36 5 N [1,1,1,0,1,0,0] F_Z36 n st (kB R pol_Z36 0 (kS R pol_Z36 10 N [1,1,1,1] F_Z36 (kTop E sg_Z36 F_Z36)))
theorem Z36.l0_succ (R:Run) (hw:R.ok) (N n:Nat) (a:vK) (b c:Int):Z36.l0 R N (n + 1) a b c = (bif (decide (c < (List.length a:Int))) then ((idx? a c).bind fun y4 => ((callT R n_Z35 o_Z35 [⟨yL,(y4,()).1⟩,⟨yI,b⟩]).bind fun r5 => (bif (decide (r5.1 < (0:Int))) then some ⟨o_Z36,((-1:Int),())⟩ else (Z36.l0 R N n a r5.1 (w64 (c + (1:Int))))))) else some ⟨o_Z36,(b,())⟩) := (hw _ _).trans (by kernel_rfl)
theorem Z36.ev (R:Run) (N:Nat) (a0:vK) (a1:Int):evFn E R sg_Z36 pol_Z36 F_Z36 N [⟨yK,a0⟩,⟨yI,a1⟩] = (bif (decide ((w64 (a1 - (List.length a0:Int))) < (0:Int))) then some ⟨o_Z36,((-1:Int),())⟩ else (Z36.l0 R N N a0 (w64 (a1 - (List.length a0:Int))) (0:Int))) := by kernel_rfl
theorem Z34.ev (R:Run) (N:Nat) (a0:vK) (a1:Int):evFn E R sg_Z34 pol_Z34 F_Z34 N [⟨yK,a0⟩,⟨yI,a1⟩] = ((callT R n_Z36 o_Z36 [⟨yK,a0⟩,⟨yI,a1⟩]).bind fun r1 => (bif (decide (r1.1 < (0:Int))) then some ⟨o_Z34,((-1:Int),())⟩ else some ⟨o_Z34,(r1.1,())⟩)) := by kernel_rfl
noncomputable def Z38.l0 (R:Run) (N n:Nat) (a:(List Int)) (b:Int) (e:(List Int)):Option Dv := R.w (some ⟨(.c (.d yL a)::(V.dead::(V.dead::(.c (.arr 7)::(.c (.d yI b)::(zd 17 [])))))),(zo 7 (some (.arr yI e true false false)::(zo 15 [])))⟩) fun st => lC R pol_Z38 3 N [1,1,0,1,0,0] F_Z38 n st (kB R pol_Z38 0 (kS R pol_Z38 6 N [1,1,1] F_Z38 (kTop E sg_Z38 F_Z38)))
theorem Z38.l0_succ (R:Run) (hw:R.ok) (N n:Nat) (a:(List Int)) (b:Int) (c:(List Int)):Z38.l0 R N (n + 1) a b c = (bif (decide (b < (List.length a:Int))) then ((idx? a b).bind fun y4 => ((chk (decide (0 ≤ b) && decide (b < (List.length c:Int)))).bind fun _ => (Z38.l0 R N n a (w64 (b + (1:Int))) (List.set c (Int.toNat b) (y4,()).1)))) else some ⟨o_Z38,(c,())⟩) := (hw _ _).trans (by kernel_rfl)
theorem Z38.ev (R:Run) (N:Nat) (a0:(List Int)):evFn E R sg_Z38 pol_Z38 F_Z38 N [⟨yL,a0⟩] = ((chk (decide (0 ≤ (List.length a0:Int)) && decide ((List.length a0:Int) * 8 ≤ 70368744177664))).bind fun _ => (Z38.l0 R N N a0 (0:Int) (List.replicate (Int.toNat (List.length a0:Int)) (0:Int)))) := by kernel_rfl
noncomputable def Z39.l0 (R:Run) (N n:Nat) (a:vK) (b:Int) (e:vK):Option Dv := R.w (some ⟨(.c (.d yK a)::(V.dead::(V.dead::(.c (.arr 7)::(.c (.d yI b)::(zd 18 [])))))),(zo 7 (some (.arr yL e true false false)::(zo 17 [])))⟩) fun st => lC R pol_Z39 3 N [1,1,0,1,0,0] F_Z39 n st (kB R pol_Z39 0 (kS R pol_Z39 6 N [1,1,1] F_Z39 (kTop E sg_Z39 F_Z39)))
theorem Z39.l0_succ (R:Run) (hw:R.ok) (N n:Nat) (a:vK) (b:Int) (c:vK):Z39.l0 R N (n + 1) a b c = (bif (decide (b < (List.length a:Int))) then ((idx? a b).bind fun y4 => ((callT R n_Z38 o_Z38 [⟨yL,(y4,()).1⟩]).bind fun r5 => ((chk (decide (0 ≤ b) && decide (b < (List.length c:Int)))).bind fun _ => (Z39.l0 R N n a (w64 (b + (1:Int))) (List.set c (Int.toNat b) r5.1))))) else some ⟨o_Z39,(c,())⟩) := (hw _ _).trans (by kernel_rfl)
theorem Z39.ev (R:Run) (N:Nat) (a0:vK):evFn E R sg_Z39 pol_Z39 F_Z39 N [⟨yK,a0⟩] = ((chk (decide (0 ≤ (List.length a0:Int)) && decide ((List.length a0:Int) * 24 ≤ 70368744177664))).bind fun _ => (Z39.l0 R N N a0 (0:Int) (List.replicate (Int.toNat (List.length a0:Int)) ([]:List Int)))) := by kernel_rfl
theorem Z37.ev (R:Run) (N:Nat) (a0:vK):evFn E R sg_Z37 pol_Z37 F_Z37 N [⟨yK,a0⟩] = ((callT R n_Z39 o_Z39 [⟨yK,a0⟩]).bind fun r1 => some ⟨o_Z37,(r1.1,())⟩) := by kernel_rfl
theorem Z63.ev (R:Run) (N:Nat) (a0 a1 a2:Int):evFn E R sg_Z63 pol_Z63 F_Z63 N [⟨yI,a0⟩,⟨yI,a1⟩,⟨yI,a2⟩] = (bif (decide (a0 ≥ a1)) then some ⟨o_Z63,((decide (a0 ≤ a2)),())⟩ else some ⟨o_Z63,(false,())⟩) := by kernel_rfl
noncomputable def Z65.j1 (R:Run) (N a:Nat) (b:(List Int)) (e f g:Int) (h:Bool):Option Dv := R.w (some ⟨(.c (.d yL b)::(.c (.d yI e)::(.c (.d yI f)::(zd 4 (.c (.d yI g)::(zd 29 (.c (.d .bool h)::[]))))))),(zo 41 [])⟩) fun st => eC R pol_Z65 N [1,0,1,0,0,1,0,0,1] F_Z65 st (kB R pol_Z65 1 (kS R pol_Z65 3 N [1,0,1,0,0,1,1] F_Z65 (kL R pol_Z65 2 N [1,0,1,0,0] F_Z65 a (kB R pol_Z65 0 (kS R pol_Z65 6 N [1,1] F_Z65 (kTop E sg_Z65 F_Z65))))))
noncomputable def Z65.l0 (R:Run) (N n:Nat) (a:(List Int)) (b e f:Int):Option Dv := R.w (some ⟨(.c (.d yL a)::(.c (.d yI b)::(.c (.d yI e)::(zd 4 (.c (.d yI f)::(zd 30 [])))))),(zo 41 [])⟩) fun st => lC R pol_Z65 2 N [1,0,1,0,0] F_Z65 n st (kB R pol_Z65 0 (kS R pol_Z65 6 N [1,1] F_Z65 (kTop E sg_Z65 F_Z65)))
theorem Z65.j1_eq (R:Run) (hw:R.ok) (N a:Nat) (b:(List Int)) (c d e:Int) (f:Bool):Z65.j1 R N a b c d e f = (bif f then some ⟨o_Z65,(false,())⟩ else (Z65.l0 R N a b c d (w64 (e + (1:Int))))) := (hw _ _).trans (by kernel_rfl)
theorem Z65.l0_succ (R:Run) (hw:R.ok) (N n:Nat) (a:(List Int)) (b c d:Int):Z65.l0 R N (n + 1) a b c d = (bif (decide (d < (List.length a:Int))) then ((idx? a d).bind fun y5 => ((callT R n_Z63 o_Z63 [⟨yI,(y5,()).1⟩,⟨yI,b⟩,⟨yI,c⟩]).bind fun r6 => (bif (!r6.1) then (Z65.j1 R N n a b c d true) else (bif (decide (d > (0:Int))) then ((idx? a (w64 (d - (1:Int)))).bind fun y16 => ((idx? a d).bind fun y17 => (Z65.j1 R N n a b c d (decide ((y16,()).1 ≥ (y17,()).1))))) else (Z65.j1 R N n a b c d false))))) else some ⟨o_Z65,(true,())⟩) := (hw _ _).trans (by kernel_rfl)
theorem Z65.ev (R:Run) (N:Nat) (a0:(List Int)) (a1 a2:Int):evFn E R sg_Z65 pol_Z65 F_Z65 N [⟨yL,a0⟩,⟨yI,a1⟩,⟨yI,a2⟩] = (Z65.l0 R N N a0 a1 a2 (0:Int)) := by kernel_rfl
theorem Z72.ev (R:Run) (N:Nat) (a0:(List Int)):evFn E R sg_Z72 pol_Z72 F_Z72 N [⟨yL,a0⟩] = ((callT R n_Z63 o_Z63 [⟨yI,(List.length a0:Int)⟩,⟨yI,(1:Int)⟩,⟨yI,(4:Int)⟩]).bind fun r1 => (bif r1.1 then ((callT R n_Z65 o_Z65 [⟨yL,a0⟩,⟨yI,(0:Int)⟩,⟨yI,(9:Int)⟩]).bind fun r2 => some ⟨o_Z72,(r2.1,())⟩) else some ⟨o_Z72,(false,())⟩)) := by kernel_rfl
noncomputable def Z67.l0 (R:Run) (N n:Nat) (a b:(List Int)) (e:Int):Option Dv := R.w (some ⟨(.c (.d yL a)::(.c (.d yL b)::(zd 3 (.c (.d yI e)::(zd 34 []))))),(zo 42 [])⟩) fun st => lC R pol_Z67 4 N [1,1,0,1,0,0] F_Z67 n st (kB R pol_Z67 0 (kS R pol_Z67 8 N [1,1,1] F_Z67 (kTop E sg_Z67 F_Z67)))
theorem Z67.l0_succ (R:Run) (hw:R.ok) (N n:Nat) (a b:(List Int)) (c:Int):Z67.l0 R N (n + 1) a b c = (bif (decide (c < (List.length a:Int))) then ((idx? a c).bind fun y4 => ((idx? b c).bind fun y5 => (bif ((y4,()).1 != (y5,()).1) then ((idx? a c).bind fun y6 => ((idx? b c).bind fun y7 => some ⟨o_Z67,((decide ((y6,()).1 < (y7,()).1)),())⟩)) else (Z67.l0 R N n a b (w64 (c + (1:Int))))))) else some ⟨o_Z67,(false,())⟩) := (hw _ _).trans (by kernel_rfl)
theorem Z67.ev (R:Run) (N:Nat) (a0 a1:(List Int)):evFn E R sg_Z67 pol_Z67 F_Z67 N [⟨yL,a0⟩,⟨yL,a1⟩] = (bif ((List.length a0:Int) != (List.length a1:Int)) then some ⟨o_Z67,((decide ((List.length a0:Int) < (List.length a1:Int))),())⟩ else (Z67.l0 R N N a0 a1 (0:Int))) := by kernel_rfl
theorem Z64.ev (R:Run) (N:Nat) (a0:(List Int)):evFn E R sg_Z64 pol_Z64 F_Z64 N [⟨yL,a0⟩] = ((chk (decide ((List.length ([]:List Int) + List.length a0) * 8 ≤ 70368744177664))).bind fun _ => some ⟨o_Z64,((([]:List Int) ++ a0),())⟩) := by kernel_rfl
theorem Z68.ev (R:Run) (N:Nat) (a0:(List Int)) (a1:Int):evFn E R sg_Z68 pol_Z68 F_Z68 N [⟨yL,a0⟩,⟨yI,a1⟩] = ((chk (decide (0 ≤ a1) && decide (a1 ≤ (List.length a0:Int)))).bind fun _ => ((callT R n_Z64 o_Z64 [⟨yL,(List.take (Int.toNat a1) a0)⟩]).bind fun r1 => ((chk (decide (0 ≤ (w64 (a1 + (1:Int)))) && decide ((w64 (a1 + (1:Int))) ≤ (List.length a0:Int)))).bind fun _ => ((chk (decide ((List.length r1.1 + List.length (List.drop (Int.toNat (w64 (a1 + (1:Int)))) a0)) * 8 ≤ 70368744177664))).bind fun _ => some ⟨o_Z68,((r1.1 ++ (List.drop (Int.toNat (w64 (a1 + (1:Int)))) a0)),())⟩)))) := by kernel_rfl
noncomputable def Z66.l0 (R:Run) (N n:Nat) (a b:(List Int)) (e:Int):Option Dv := R.w (some ⟨(.c (.d yL a)::(.c (.d yL b)::(zd 3 (.c (.d yI e)::(zd 20 []))))),(zo 28 [])⟩) fun st => lC R pol_Z66 4 N [1,1,0,1,0,0] F_Z66 n st (kB R pol_Z66 0 (kS R pol_Z66 8 N [1,1,1] F_Z66 (kTop E sg_Z66 F_Z66)))
theorem Z66.l0_succ (R:Run) (hw:R.ok) (N n:Nat) (a b:(List Int)) (c:Int):Z66.l0 R N (n + 1) a b c = (bif (decide (c < (List.length a:Int))) then ((idx? a c).bind fun y4 => ((idx? b c).bind fun y5 => (bif ((y4,()).1 != (y5,()).1) then some ⟨o_Z66,(false,())⟩ else (Z66.l0 R N n a b (w64 (c + (1:Int))))))) else some ⟨o_Z66,(true,())⟩) := (hw _ _).trans (by kernel_rfl)
theorem Z66.ev (R:Run) (N:Nat) (a0 a1:(List Int)):evFn E R sg_Z66 pol_Z66 F_Z66 N [⟨yL,a0⟩,⟨yL,a1⟩] = (bif ((List.length a0:Int) != (List.length a1:Int)) then some ⟨o_Z66,(false,())⟩ else (Z66.l0 R N N a0 a1 (0:Int))) := by kernel_rfl
noncomputable def Z69.l0 (R:Run) (N n:Nat) (a:(vK × Unit)) (b:(List Int)) (e:Int):Option Dv := R.w (some ⟨(.c (.ip (.cons yK .nil) a 0)::(.c (.d yL b)::(zd 3 (.c (.d yI e)::(zd 19 []))))),(zo 27 [])⟩) fun st => lC R pol_Z69 2 N [1,0,1,0,0] F_Z69 n st (kB R pol_Z69 0 (kS R pol_Z69 6 N [1,1] F_Z69 (kTop E sg_Z69 F_Z69)))
theorem Z69.l0_succ (R:Run) (hw:R.ok) (N n:Nat) (a:(vK × Unit)) (b:(List Int)) (c:Int):Z69.l0 R N (n + 1) a b c = (bif (decide (c < (List.length a.1:Int))) then ((idx? a.1 c).bind fun y4 => ((callT R n_Z66 o_Z66 [⟨yL,(y4,()).1⟩,⟨yL,b⟩]).bind fun r5 => (bif r5.1 then some ⟨o_Z69,(c,())⟩ else (Z69.l0 R N n a b (w64 (c + (1:Int))))))) else some ⟨o_Z69,((-1:Int),())⟩) := (hw _ _).trans (by kernel_rfl)
theorem Z69.ev (R:Run) (N:Nat) (a0:(vK × Unit)) (a1:(List Int)):evFn E R sg_Z69 pol_Z69 F_Z69 N [⟨(.ptr (.cons yK .nil)),a0⟩,⟨yL,a1⟩] = (Z69.l0 R N N a0 a1 (0:Int)) := by kernel_rfl
noncomputable def Z70.j3 (R:Run) (N a b:Nat) (e:(vK × Unit)) (f:Int) (g:(List Int)) (h:Int) (i:Bool):Option Dv := R.w (some ⟨(.c (.ip (.cons yK .nil) e 0)::(V.dead::(V.dead::(.c (.d yI f)::(.c (.d yL g)::(.c (.d yI h)::(zd 50 (.c (.d .bool i)::(zd 8 []))))))))),(zo 66 [])⟩) fun st => eC R pol_Z70 N [1,1,0,1,0,0,1,0,0,1,1,1,0,0,0,1] F_Z70 st (kS R pol_Z70 12 N [1,1,0,1,0,0,1,0,0,1,1,1,0,0,1] F_Z70 (kL R pol_Z70 10 N [1,1,0,1,0,0,1,0,0,1,1,1,0,0] F_Z70 b (kB R pol_Z70 2 (kB R pol_Z70 1 (q0_0 R N (q0_3 R N a (kB R pol_Z70 0 (q0_1 R N (kTop E sg_Z70 F_Z70)))))))))
noncomputable def Z70.l2 (R:Run) (N a n:Nat) (b:(vK × Unit)) (e:Int) (f:(List Int)) (g:Int):Option Dv := R.w (some ⟨(.c (.ip (.cons yK .nil) b 0)::(V.dead::(V.dead::(.c (.d yI e)::(.c (.d yL f)::(.c (.d yI g)::(zd 59 []))))))),(zo 66 [])⟩) fun st => lC R pol_Z70 10 N [1,1,0,1,0,0,1,0,0,1,1,1,0,0] F_Z70 n st (kB R pol_Z70 2 (kB R pol_Z70 1 (q0_0 R N (q0_3 R N a (kB R pol_Z70 0 (q0_1 R N (kTop E sg_Z70 F_Z70)))))))
noncomputable def Z70.j1 (R:Run) (N a:Nat) (b:(vK × Unit)) (e:Int) (f:(List Int)) (g:Bool):Option Dv := R.w (some ⟨(.c (.ip (.cons yK .nil) b 0)::(V.dead::(V.dead::(.c (.d yI e)::(.c (.d yL f)::(zd 42 (.c (.d .bool g)::(zd 17 [])))))))),(zo 66 [])⟩) fun st => eC R pol_Z70 N [1,1,0,1,0,0,1,0,0,1,0,1] F_Z70 st (kS R pol_Z70 9 N [1,1,0,1,0,0,1,0,0,1,1] F_Z70 (kB R pol_Z70 1 (q0_0 R N (q0_3 R N a (kB R pol_Z70 0 (q0_1 R N (kTop E sg_Z70 F_Z70)))))))
noncomputable def Z70.l0 (R:Run) (N n:Nat) (a:(vK × Unit)) (b:Int):Option Dv := R.w (some ⟨(.c (.ip (.cons yK .nil) a 0)::(V.dead::(V.dead::(.c (.d yI b)::(zd 61 []))))),(zo 66 [])⟩) fun st => lC R pol_Z70 4 N [1,1,0,1,0,0] F_Z70 n st (kB R pol_Z70 0 (q0_1 R N (kTop E sg_Z70 F_Z70)))
theorem Z70.j3_eq (R:Run) (hw:R.ok) (N a b:Nat) (c:(vK × Unit)) (d:Int) (e:(List Int)) (f:Int) (g:Bool):Z70.j3 R N a b c d e f g = (bif g then ((callT R n_Z68 o_Z68 [⟨yL,e⟩,⟨yI,f⟩]).bind fun r18 => ((callT R n_Z69 o_Z69 [⟨(.ptr (.cons yK .nil)),c⟩,⟨yL,r18.1⟩]).bind fun r19 => (bif (decide (r19.1 < (0:Int))) then some ⟨o_Z70,(false,())⟩ else (Z70.l2 R N a b c d e (w64 (f + (1:Int))))))) else (Z70.l0 R N a c (w64 (d + (1:Int))))) := (hw _ _).trans (by kernel_rfl)
theorem Z70.l2_succ (R:Run) (hw:R.ok) (N a n:Nat) (b:(vK × Unit)) (c:Int) (d:(List Int)) (e:Int):Z70.l2 R N a (n + 1) b c d e = (bif (decide (e < (List.length d:Int))) then (Z70.j3 R N a n b c d e (decide ((List.length d:Int) > (1:Int)))) else (Z70.j3 R N a n b c d e false)) := (hw _ _).trans (by kernel_rfl)
theorem Z70.j1_eq (R:Run) (hw:R.ok) (N a:Nat) (b:(vK × Unit)) (c:Int) (d:(List Int)) (e:Bool):Z70.j1 R N a b c d e = (bif e then some ⟨o_Z70,(false,())⟩ else (Z70.l2 R N a N b c d (0:Int))) := (hw _ _).trans (by kernel_rfl)
theorem Z70.l0_succ (R:Run) (hw:R.ok) (N n:Nat) (a:(vK × Unit)) (b:Int):Z70.l0 R N (n + 1) a b = (bif (decide (b < (List.length a.1:Int))) then ((idx? a.1 b).bind fun y3 => ((callT R n_Z72 o_Z72 [⟨yL,(y3,()).1⟩]).bind fun r4 => (bif (!r4.1) then (Z70.j1 R N n a b ((y3,()).1) true) else (bif (decide (b > (0:Int))) then ((idx? a.1 (w64 (b - (1:Int)))).bind fun y31 => ((callT R n_Z67 o_Z67 [⟨yL,(y31,()).1⟩,⟨yL,(y3,()).1⟩]).bind fun r32 => (Z70.j1 R N n a b ((y3,()).1) (!r32.1)))) else (Z70.j1 R N n a b ((y3,()).1) false))))) else some ⟨o_Z70,(true,())⟩) := (hw _ _).trans (by kernel_rfl)
theorem Z70.ev (R:Run) (N:Nat) (a0:(vK × Unit)):evFn E R sg_Z70 pol_Z70 F_Z70 N [⟨(.ptr (.cons yK .nil)),a0⟩] = (bif (decide ((List.length a0.1:Int) > (48:Int))) then some ⟨o_Z70,(false,())⟩ else (Z70.l0 R N N a0 (0:Int))) := by kernel_rfl
noncomputable def Z62.l0 (R:Run) (N n:Nat) (a:(List Int)) (b e:Int):Option Dv := R.w (some ⟨(.c (.d yL a)::(.c (.d yI b)::(zd 3 (.c (.d yI e)::(zd 12 []))))),(zo 20 [])⟩) fun st => lC R pol_Z62 2 N [1,0,1,0,0] F_Z62 n st (kB R pol_Z62 0 (kS R pol_Z62 6 N [1,1] F_Z62 (kTop E sg_Z62 F_Z62)))
theorem Z62.l0_succ (R:Run) (hw:R.ok) (N n:Nat) (a:(List Int)) (b c:Int):Z62.l0 R N (n + 1) a b c = (bif (decide (c < (List.length a:Int))) then ((idx? a c).bind fun y4 => (bif ((y4,()).1 == b) then some ⟨o_Z62,(true,())⟩ else (Z62.l0 R N n a b (w64 (c + (1:Int)))))) else some ⟨o_Z62,(false,())⟩) := (hw _ _).trans (by kernel_rfl)
theorem Z62.ev (R:Run) (N:Nat) (a0:(List Int)) (a1:Int):evFn E R sg_Z62 pol_Z62 F_Z62 N [⟨yL,a0⟩,⟨yI,a1⟩] = (Z62.l0 R N N a0 a1 (0:Int)) := by kernel_rfl
noncomputable def Z75.l0 (R:Run) (N n:Nat) (a:(vK × Unit)) (b:(List Int)) (e:Int) (f:vK):Option Dv := R.w (some ⟨(.c (.ip (.cons yK .nil) a 0)::(.c (.d yL b)::(V.dead::(V.dead::(.c (.box 4 0)::(.c (.box 5 0)::(.c (.d yI e)::(zd 29 [])))))))),(zo 4 (some (.box [.nils yL] false false)::(some (.box [.arr 7] false false)::(none::(some (.arr yL f true false false)::(zo 31 []))))))⟩) fun st => lC R pol_Z75 3 N [1,1,0,1,0,0] F_Z75 n st (kB R pol_Z75 0 (kS R pol_Z75 7 N [1,1,1] F_Z75 (kTop E sg_Z75 F_Z75)))
theorem Z75.l0_succ (R:Run) (hw:R.ok) (N n:Nat) (a:(vK × Unit)) (b:(List Int)) (c:Int) (d:vK):Z75.l0 R N (n + 1) a b c d = (bif (decide (c < (List.length a.1:Int))) then ((callT R n_Z62 o_Z62 [⟨yL,b⟩,⟨yI,c⟩]).bind fun r5 => (bif (!r5.1) then ((idx? a.1 c).bind fun y6 => ((callT R n_Z64 o_Z64 [⟨yL,(y6,()).1⟩]).bind fun r7 => ((chk (decide ((List.length d + List.length [r7.1]) * 24 ≤ 70368744177664))).bind fun _ => (Z75.l0 R N n a b (w64 (c + (1:Int))) (d ++ [r7.1]))))) else (Z75.l0 R N n a b (w64 (c + (1:Int))) d))) else some ⟨o_Z75,(d,())⟩) := (hw _ _).trans (by kernel_rfl)
theorem Z75.ev (R:Run) (N:Nat) (a0:(vK × Unit)) (a1:(List Int)):evFn E R sg_Z75 pol_Z75 F_Z75 N [⟨(.ptr (.cons yK .nil)),a0⟩,⟨yL,a1⟩] = (Z75.l0 R N N a0 a1 (0:Int) ([]:List (List Int))) := by kernel_rfl
noncomputable def Z71.l0 (R:Run) (N n:Nat) (a b:(List Int)) (e:Int):Option Dv := R.w (some ⟨(.c (.d yL a)::(.c (.d yL b)::(zd 3 (.c (.d yI e)::(zd 13 []))))),(zo 21 [])⟩) fun st => lC R pol_Z71 2 N [1,0,1,0,0] F_Z71 n st (kB R pol_Z71 0 (kS R pol_Z71 6 N [1,1] F_Z71 (kTop E sg_Z71 F_Z71)))
theorem Z71.l0_succ (R:Run) (hw:R.ok) (N n:Nat) (a b:(List Int)) (c:Int):Z71.l0 R N (n + 1) a b c = (bif (decide (c < (List.length a:Int))) then ((idx? a c).bind fun y4 => ((callT R n_Z62 o_Z62 [⟨yL,b⟩,⟨yI,(y4,()).1⟩]).bind fun r5 => (bif (!r5.1) then some ⟨o_Z71,(false,())⟩ else (Z71.l0 R N n a b (w64 (c + (1:Int))))))) else some ⟨o_Z71,(true,())⟩) := (hw _ _).trans (by kernel_rfl)
theorem Z71.ev (R:Run) (N:Nat) (a0 a1:(List Int)):evFn E R sg_Z71 pol_Z71 F_Z71 N [⟨yL,a0⟩,⟨yL,a1⟩] = (Z71.l0 R N N a0 a1 (0:Int)) := by kernel_rfl
noncomputable def Z73.l0 (R:Run) (N n:Nat) (a:(vK × Unit)) (b:(List Int)) (e:Int) (f:(List Int)):Option Dv := R.w (some ⟨(.c (.ip (.cons yK .nil) a 0)::(.c (.d yL b)::(zd 3 (.c (.arr 7)::(.c (.d yI e)::(zd 24 [])))))),(zo 7 (some (.arr yI f true false false)::(zo 25 [])))⟩) fun st => lC R pol_Z73 3 N [1,1,0,1,0,0] F_Z73 n st (kB R pol_Z73 0 (kS R pol_Z73 7 N [1,1,1] F_Z73 (kTop E sg_Z73 F_Z73)))
theorem Z73.l0_succ (R:Run) (hw:R.ok) (N n:Nat) (a:(vK × Unit)) (b:(List Int)) (c:Int) (d:(List Int)):Z73.l0 R N (n + 1) a b c d = (bif (decide (c < (List.length a.1:Int))) then ((idx? a.1 c).bind fun y5 => ((callT R n_Z71 o_Z71 [⟨yL,b⟩,⟨yL,(y5,()).1⟩]).bind fun r6 => (bif r6.1 then ((chk (decide ((List.length d + List.length [c]) * 8 ≤ 70368744177664))).bind fun _ => (Z73.l0 R N n a b (w64 (c + (1:Int))) (d ++ [c]))) else (Z73.l0 R N n a b (w64 (c + (1:Int))) d)))) else some ⟨o_Z73,(d,())⟩) := (hw _ _).trans (by kernel_rfl)
theorem Z73.ev (R:Run) (N:Nat) (a0:(vK × Unit)) (a1:(List Int)):evFn E R sg_Z73 pol_Z73 F_Z73 N [⟨(.ptr (.cons yK .nil)),a0⟩,⟨yL,a1⟩] = (Z73.l0 R N N a0 a1 (0:Int) ([]:List Int)) := by kernel_rfl
noncomputable def Z74.l0 (R:Run) (N n:Nat) (a:(vK × Unit)) (b:Int) (e:vK):Option Dv := R.w (some ⟨(.c (.ip (.cons yK .nil) a 0)::(V.dead::(V.dead::(.c (.arr 6)::(.c (.d yI b)::(zd 32 [])))))),(zo 6 (some (.arr yL e true false false)::(zo 31 [])))⟩) fun st => lC R pol_Z74 3 N [1,1,0,1,0,0] F_Z74 n st (kB R pol_Z74 0 (kS R pol_Z74 8 N [1,1,1] F_Z74 (kTop E sg_Z74 F_Z74)))
theorem Z74.l0_succ (R:Run) (hw:R.ok) (N n:Nat) (a:(vK × Unit)) (b:Int) (c:vK):Z74.l0 R N (n + 1) a b c = (bif (decide (b < (List.length a.1:Int))) then ((idx? a.1 b).bind fun y4 => ((callT R n_Z73 o_Z73 [⟨(.ptr (.cons yK .nil)),a⟩,⟨yL,(y4,()).1⟩]).bind fun r5 => (bif ((List.length r5.1:Int) == (2:Int)) then ((idx? r5.1 (1:Int)).bind fun y6 => ((chk (decide ((List.length c + List.length [[b,(y6,()).1]]) * 24 ≤ 70368744177664))).bind fun _ => (Z74.l0 R N n a (w64 (b + (1:Int))) (c ++ [[b,(y6,()).1]])))) else (Z74.l0 R N n a (w64 (b + (1:Int))) c)))) else some ⟨o_Z74,(c,())⟩) := (hw _ _).trans (by kernel_rfl)
theorem Z74.ev (R:Run) (N:Nat) (a0:(vK × Unit)):evFn E R sg_Z74 pol_Z74 F_Z74 N [⟨(.ptr (.cons yK .nil)),a0⟩] = (Z74.l0 R N N a0 (0:Int) ([]:List (List Int))) := by kernel_rfl
noncomputable def Z61.l0 (R:Run) (N n:Nat) (a:Int) (b:vK):Option Dv := R.w (some ⟨(V.dead::(V.dead::(.c (.box 2 0)::(V.dead::(V.dead::(.c (.box 5 0)::(.c (.d yI a)::(zd 18 [])))))))),(none::(none::(some (.box [.nils yL] false false)::(none::(none::(some (.box [.arr 26] false false)::(zo 20 (some (.arr yL b true false false)::[]))))))))⟩) fun st => lC R pol_Z61 5 N [1,1,1,1,0,0] F_Z61 n st (kB R pol_Z61 0 (kTop E sg_Z61 F_Z61))
theorem Z61.l0_succ (R:Run) (hw:R.ok) (N n:Nat) (a:Int) (b:vK):Z61.l0 R N (n + 1) a b = ((callT R n_Z74 o_Z74 [⟨(.ptr (.cons yK .nil)),(b,())⟩]).bind fun r5 => (bif ((List.length r5.1:Int) == (0:Int)) then some ⟨o_Z61,(b,a,(0:Int),())⟩ else ((idx? r5.1 (0:Int)).bind fun y6 => ((callT R n_Z75 o_Z75 [⟨(.ptr (.cons yK .nil)),(b,())⟩,⟨yL,(y6,()).1⟩]).bind fun r7 => (Z61.l0 R N n (w64 (a + (1:Int))) r7.1))))) := (hw _ _).trans (by kernel_rfl)
theorem Z61.ev (R:Run) (N:Nat) (a0:vK):evFn E R sg_Z61 pol_Z61 F_Z61 N [⟨yK,a0⟩] = ((callT R n_Z70 o_Z70 [⟨(.ptr (.cons yK .nil)),(a0,())⟩]).bind fun r1 => (bif (!r1.1) then some ⟨o_Z61,(([]:List (List Int)),(0:Int),(1:Int),())⟩ else ((callT R n_Z75 o_Z75 [⟨(.ptr (.cons yK .nil)),(a0,())⟩,⟨yL,([]:List Int)⟩]).bind fun r2 => (Z61.l0 R N N (0:Int) r2.1)))) := by kernel_rfl
noncomputable def Z19.l0 (R:Run) (N n:Nat) (a:(List Int)) (b:Int):Option Dv := R.w (some ⟨(.c (.d yL a)::(V.dead::(V.dead::(.c (.d yI b)::(zd 16 []))))),(zo 21 [])⟩) fun st => lC R pol_Z19 2 N [1,0,1,0,0] F_Z19 n st (kB R pol_Z19 0 (kS R pol_Z19 6 N [1,1] F_Z19 (kTop E sg_Z19 F_Z19)))
theorem Z19.l0_succ (R:Run) (hw:R.ok) (N n:Nat) (a:(List Int)) (b:Int):Z19.l0 R N (n + 1) a b = (bif (decide (b < (List.length a:Int))) then ((idx? a (w64 (b - (1:Int)))).bind fun y3 => ((idx? a b).bind fun y4 => (bif (decide ((y3,()).1 ≥ (y4,()).1)) then some ⟨o_Z19,(false,())⟩ else (Z19.l0 R N n a (w64 (b + (1:Int))))))) else some ⟨o_Z19,(true,())⟩) := (hw _ _).trans (by kernel_rfl)
theorem Z19.ev (R:Run) (N:Nat) (a0:(List Int)):evFn E R sg_Z19 pol_Z19 F_Z19 N [⟨yL,a0⟩] = (Z19.l0 R N N a0 (1:Int)) := by kernel_rfl
theorem Z23.ev (R:Run) (N:Nat) (a0 a1 a2:Int):evFn E R sg_Z23 pol_Z23 F_Z23 N [⟨yI,a0⟩,⟨yI,a1⟩,⟨yI,a2⟩] = (bif (decide (a0 ≥ a1)) then some ⟨o_Z23,((decide (a0 ≤ a2)),())⟩ else some ⟨o_Z23,(false,())⟩) := by kernel_rfl
theorem Z20.ev (R:Run) (N:Nat) (a0:Int):evFn E R sg_Z20 pol_Z20 F_Z20 N [⟨yI,a0⟩] = ((callT R n_Z23 o_Z23 [⟨yI,a0⟩,⟨yI,(0:Int)⟩,⟨yI,(9:Int)⟩]).bind fun r1 => some ⟨o_Z20,(r1.1,())⟩) := by kernel_rfl
theorem Z9.ev (R:Run) (N:Nat) (a0:Int):evFn E R sg_Z9 pol_Z9 F_Z9 N [⟨yI,a0⟩] = ((callT R n_Z20 o_Z20 [⟨yI,a0⟩]).bind fun r1 => some ⟨o_Z9,((!r1.1),())⟩) := by kernel_rfl
noncomputable def Z57.l0 (R:Run) (N n:Nat) (a:(List Int)) (b e:Int):Option Dv := R.w (some ⟨(.c (.d yL a)::(.c (.d (.fn n_Z9 .nil) ())::(zd 5 (.c (.d yI b)::(.c (.d yI e)::(zd 10 [])))))),(zo 21 [])⟩) fun st => q0_4 R N n st (kB R pol_Z56 0 (q0_2 R N (kTop E sg_Z56 F_Z56)))
theorem Z57.l0_succ (R:Run) (hw:R.ok) (N n:Nat) (a:(List Int)) (b c:Int):Z57.l0 R N (n + 1) a b c = (bif (decide (c < b)) then ((idx? a c).bind fun y4 => ((callT R n_Z9 o_Z9 [⟨yI,(y4,()).1⟩]).bind fun r5 => (bif r5.1 then some ⟨o_Z56,(c,())⟩ else (Z57.l0 R N n a b (w64 (c + (1:Int))))))) else some ⟨o_Z56,((-1:Int),())⟩) := (hw _ _).trans (by kernel_rfl)
theorem Z57.ev (R:Run) (N:Nat) (a0:(List Int)):evFn E R sg_Z56 pol_Z56 F_Z56 N [⟨yL,a0⟩,⟨(.fn n_Z9 .nil),()⟩] = (Z57.l0 R N N a0 (List.length a0:Int) (0:Int)) := by kernel_rfl
theorem Z49.ev (R:Run) (N:Nat) (a0:(List Int)):evFn E R sg_Z48 pol_Z48 F_Z48 N [⟨yL,a0⟩,⟨(.fn n_Z9 .nil),()⟩] = ((callT R n_Z56 o_Z56 [⟨yL,a0⟩,⟨(.fn n_Z9 .nil),()⟩]).bind fun r1 => some ⟨o_Z48,((decide (r1.1 ≥ (0:Int))),())⟩) := by kernel_rfl
theorem Z8.ev (R:Run) (N:Nat) (a0:(List Int)):evFn E R sg_Z8 pol_Z8 F_Z8 N [⟨yL,a0⟩] = (bif (decide ((List.length a0:Int) ≥ (1:Int))) then (bif (decide ((List.length a0:Int) ≤ (4:Int))) then ((callT R n_Z19 o_Z19 [⟨yL,a0⟩]).bind fun r1 => (bif r1.1 then ((callT R n_Z48 o_Z48 [⟨yL,a0⟩,⟨(.fn n_Z9 .nil),()⟩]).bind fun r2 => some ⟨o_Z8,((!r2.1),())⟩) else some ⟨o_Z8,(false,())⟩)) else some ⟨o_Z8,(false,())⟩) else some ⟨o_Z8,(false,())⟩) := by kernel_rfl
theorem Z3.ev (R:Run) (N:Nat) (a0:Int):evFn E R sg_Z3 pol_Z3 F_Z3 N [⟨yI,a0⟩] = some ⟨o_Z3,((a0 != a0),())⟩ := by kernel_rfl
theorem Z0.ev (R:Run) (N:Nat) (a0 a1:Int):evFn E R sg_Z0 pol_Z0 F_Z0 N [⟨yI,a0⟩,⟨yI,a1⟩] = ((callT R n_Z3 o_Z3 [⟨yI,a0⟩]).bind fun r1 => ((callT R n_Z3 o_Z3 [⟨yI,a1⟩]).bind fun r2 => (bif r1.1 then (bif r2.1 then some ⟨o_Z0,((0:Int),())⟩ else some ⟨o_Z0,((-1:Int),())⟩) else (bif r2.1 then some ⟨o_Z0,((1:Int),())⟩ else (bif (decide (a0 < a1)) then some ⟨o_Z0,((-1:Int),())⟩ else (bif (decide (a0 > a1)) then some ⟨o_Z0,((1:Int),())⟩ else some ⟨o_Z0,((0:Int),())⟩)))))) := by kernel_rfl
theorem Z4.ev (R:Run) (N:Nat) (a0:Int):evFn E R sg_Z4 pol_Z4 F_Z4 N [⟨yI,a0⟩] = some ⟨o_Z4,((a0 != a0),())⟩ := by kernel_rfl
theorem Z1.ev (R:Run) (N:Nat) (a0 a1:Int):evFn E R sg_Z1 pol_Z1 F_Z1 N [⟨yI,a0⟩,⟨yI,a1⟩] = ((callT R n_Z4 o_Z4 [⟨yI,a0⟩]).bind fun r1 => ((callT R n_Z4 o_Z4 [⟨yI,a1⟩]).bind fun r2 => (bif r1.1 then (bif r2.1 then some ⟨o_Z1,((0:Int),())⟩ else some ⟨o_Z1,((-1:Int),())⟩) else (bif r2.1 then some ⟨o_Z1,((1:Int),())⟩ else (bif (decide (a0 < a1)) then some ⟨o_Z1,((-1:Int),())⟩ else (bif (decide (a0 > a1)) then some ⟨o_Z1,((1:Int),())⟩ else some ⟨o_Z1,((0:Int),())⟩)))))) := by kernel_rfl
noncomputable def Z44.l0 (R:Run) (N n:Nat) (a b e:(List Int)) (f g:Int):Option Dv := R.w (some ⟨(.c (.d yL a)::(.c (.d yL b)::(zd 7 (.c (.d yL e)::(.c (.d yI f)::(.c (.d yI g)::(zd 24 []))))))),(zo 38 [])⟩) fun st => lC R pol_Z44 2 N [1,0,1,0,0] F_Z44 n st (kB R pol_Z44 0 (kS R pol_Z44 11 N [1,1] F_Z44 (kTop E sg_Z44 F_Z44)))
theorem Z44.l0_succ (R:Run) (hw:R.ok) (N n:Nat) (a b c:(List Int)) (d e:Int):Z44.l0 R N (n + 1) a b c d e = (bif (decide (e < d)) then ((idx? c e).bind fun y6 => (bif (decide (e ≥ (List.length b:Int))) then some ⟨o_Z44,((1:Int),())⟩ else ((idx? b e).bind fun y7 => ((callT R n_Z1 o_Z1 [⟨yI,(y6,()).1⟩,⟨yI,(y7,()).1⟩]).bind fun r8 => (bif (r8.1 != (0:Int)) then some ⟨o_Z44,(r8.1,())⟩ else (Z44.l0 R N n a b c d (w64 (e + (1:Int))))))))) else (bif (decide ((List.length a:Int) < (List.length b:Int))) then some ⟨o_Z44,((-1:Int),())⟩ else some ⟨o_Z44,((0:Int),())⟩)) := (hw _ _).trans (by kernel_rfl)
theorem Z44.ev (R:Run) (N:Nat) (a0 a1:(List Int)):evFn E R sg_Z44 pol_Z44 F_Z44 N [⟨yL,a0⟩,⟨yL,a1⟩] = (Z44.l0 R N N a0 a1 a0 (List.length a0:Int) (0:Int)) := by kernel_rfl
noncomputable def Z2.l0 (R:Run) (N n:Nat) (a:Int) (b:(List Int)) (e f:Int):Option Dv := R.w (some ⟨(zd 3 (.c (.d yI a)::(V.dead::(V.dead::(.c (.d yL b)::(.c (.d yI e)::(.c (.d yI f)::(zd 9 [])))))))),(zo 19 [])⟩) fun st => lC R pol_Z2 3 N [1,1,0,1,0,0] F_Z2 n st (kB R pol_Z2 0 (kS R pol_Z2 8 N [1,1,1] F_Z2 (kTop E sg_Z2 F_Z2)))
theorem Z2.l0_succ (R:Run) (hw:R.ok) (N n:Nat) (a:Int) (b:(List Int)) (c d:Int):Z2.l0 R N (n + 1) a b c d = (bif (decide (d < c)) then ((idx? b d).bind fun y5 => (bif ((y5,()).1 != a) then some ⟨o_Z2,((y5,()).1,())⟩ else (Z2.l0 R N n a b c (w64 (d + (1:Int)))))) else some ⟨o_Z2,(a,())⟩) := (hw _ _).trans (by kernel_rfl)
theorem Z2.ev (R:Run) (N:Nat) (a0:(List Int)):evFn E R sg_Z2 pol_Z2 F_Z2 N [⟨yL,a0⟩] = (Z2.l0 R N N (0:Int) a0 (List.length a0:Int) (0:Int)) := by kernel_rfl
theorem Z11.ev (R:Run) (N:Nat) (a0 a1:(List Int)):evFn E R sg_Z11 pol_Z11 F_Z11 N [⟨yL,a0⟩,⟨yL,a1⟩] = ((callT R n_Z0 o_Z0 [⟨yI,(List.length a0:Int)⟩,⟨yI,(List.length a1:Int)⟩]).bind fun r1 => ((callT R n_Z44 o_Z44 [⟨yL,a0⟩,⟨yL,a1⟩]).bind fun r2 => ((callT R n_Z2 o_Z2 [⟨yL,[r1.1,r2.1]⟩]).bind fun r3 => some ⟨o_Z11,(r3.1,())⟩))) := by kernel_rfl
noncomputable def Z45.l1 (R:Run) (N n:Nat) (a:vK) (b e:Int) (f:(List Int)):Option Dv := R.w (some ⟨(zd 6 (.c (.arr 37)::(zd 18 (.c (.d yK a)::(.c (.d yI b)::(.c (.d yI e)::(zd 8 []))))))),(zo 37 (some (.arr yI f true false false)::[]))⟩) fun st => lC R pol_Z45 11 N [1,1,1,1,0,1,0,0] F_Z45 n st (kB R pol_Z45 2 (kS R pol_Z45 15 N [1,1,1,1,1] F_Z45 (kTop E sg_Z45 F_Z45)))
noncomputable def Z45.l0 (R:Run) (N n:Nat) (a:vK) (b:Int) (e:vK) (f g:Int):Option Dv := R.w (some ⟨(.c (.d yK a)::(V.dead::(V.dead::(.c (.d yI b)::(zd 5 (.c (.d yK e)::(.c (.d yI f)::(.c (.d yI g)::(zd 24 []))))))))),(zo 38 [])⟩) fun st => lC R pol_Z45 3 N [1,1,0,1,0,0] F_Z45 n st (kB R pol_Z45 0 (kS R pol_Z45 9 N [1,1,1] F_Z45 (kTop E sg_Z45 F_Z45)))
theorem Z45.l1_succ (R:Run) (hw:R.ok) (N n:Nat) (a:vK) (b c:Int) (d:(List Int)):Z45.l1 R N (n + 1) a b c d = (bif (decide (c < b)) then ((idx? a c).bind fun y17 => ((chk (decide ((List.length d + List.length (y17,()).1) * 8 ≤ 70368744177664))).bind fun _ => (Z45.l1 R N n a b (w64 (c + (1:Int))) (d ++ (y17,()).1)))) else some ⟨o_Z45,(d,())⟩) := (hw _ _).trans (by kernel_rfl)
theorem Z45.l0_succ (R:Run) (hw:R.ok) (N n:Nat) (a:vK) (b:Int) (c:vK) (d e:Int):Z45.l0 R N (n + 1) a b c d e = (bif (decide (e < d)) then ((idx? c e).bind fun y6 => (bif (decide ((w64 (b + (List.length (y6,()).1:Int))) < (0:Int))) then none else (Z45.l0 R N n a (w64 (b + (List.length (y6,()).1:Int))) c d (w64 (e + (1:Int)))))) else ((callT R n_Z53 o_Z53 [⟨yL,([]:List Int)⟩,⟨yI,b⟩]).bind fun r12 => (Z45.l1 R N N a (List.length a:Int) (0:Int) r12.1))) := (hw _ _).trans (by kernel_rfl)
theorem Z45.ev (R:Run) (N:Nat) (a0:vK):evFn E R sg_Z45 pol_Z45 F_Z45 N [⟨yK,a0⟩] = (Z45.l0 R N N a0 (0:Int) a0 (List.length a0:Int) (0:Int)) := by kernel_rfl
noncomputable def Z13.l0 (R:Run) (N n:Nat) (a:(List Int)) (b e:Int) (f:vK):Option Dv := R.w (some ⟨(.c (.d yL a)::(V.dead::(V.dead::(.c (.arr 24)::(V.dead::(V.dead::(.c (.d yI b)::(.c (.d yI e)::(zd 19 []))))))))),(zo 24 (some (.arr yL f true false false)::(zo 4 [])))⟩) fun st => lC R pol_Z13 3 N [1,1,0,1,0,0] F_Z13 n st (kB R pol_Z13 0 (kS R pol_Z13 8 N [1,1,1] F_Z13 (kTop E sg_Z13 F_Z13)))
theorem Z13.l0_succ (R:Run) (hw:R.ok) (N n:Nat) (a:(List Int)) (b c:Int) (d:vK):Z13.l0 R N (n + 1) a b c d = (bif (decide (c < b)) then (bif (decide ((List.length a:Int) > (1:Int))) then ((chk (decide (0 ≤ c) && decide (c ≤ (List.length a:Int)))).bind fun _ => ((chk (decide (0 ≤ (w64 (c + (1:Int)))) && decide ((w64 (c + (1:Int))) ≤ (List.length a:Int)))).bind fun _ => ((callT R n_Z45 o_Z45 [⟨yK,[(List.take (Int.toNat c) a),(List.drop (Int.toNat (w64 (c + (1:Int)))) a)]⟩]).bind fun r5 => ((chk (decide ((List.length d + List.length [r5.1]) * 24 ≤ 70368744177664))).bind fun _ => (Z13.l0 R N n a b (w64 (c + (1:Int))) (d ++ [r5.1])))))) else (Z13.l0 R N n a b (w64 (c + (1:Int))) d)) else some ⟨o_Z13,(d,())⟩) := (hw _ _).trans (by kernel_rfl)
theorem Z13.ev (R:Run) (N:Nat) (a0:(List Int)):evFn E R sg_Z13 pol_Z13 F_Z13 N [⟨yL,a0⟩] = (Z13.l0 R N N a0 (List.length a0:Int) (0:Int) ([]:List (List Int))) := by kernel_rfl
noncomputable def Z41.l0 (R:Run) (N n:Nat) (a:vK) (b:(List Int)) (e f g:Int):Option Dv := R.w (some ⟨(.c (.d yK a)::(.c (.d yL b)::(.c (.d (.fn n_Z11 .nil) ())::(zd 5 (.c (.d yI e)::(.c (.d yI f)::(.c (.d yI g)::(zd 38 [])))))))),(zo 52 [])⟩) fun st => lC R pol_Z40 3 N [1,1,1,0,0,0] F_Z40 n st (kB R pol_Z40 0 (kS R pol_Z40 8 N [1,1,1,1] F_Z40 (kTop E sg_Z40 F_Z40)))
theorem Z41.l0_succ (R:Run) (hw:R.ok) (N n:Nat) (a:vK) (b:(List Int)) (c d e:Int):Z41.l0 R N (n + 1) a b c d e = (bif (decide (d < e)) then ((chk (decide (0 ≤ (1:Int)))).bind fun _ => ((idx? a (w64 ((Int.fdiv (IntKind.wrap .u64 ((w64 (d + e)))) (2 ^ (min (Int.toNat (1:Int)) (IntKind.bits .u64))))))).bind fun y6 => ((callT R n_Z11 o_Z11 [⟨yL,(y6,()).1⟩,⟨yL,b⟩]).bind fun r7 => (bif (decide (r7.1 < (0:Int))) then (Z41.l0 R N n a b c (w64 ((w64 ((Int.fdiv (IntKind.wrap .u64 ((w64 (d + e)))) (2 ^ (min (Int.toNat (1:Int)) (IntKind.bits .u64)))))) + (1:Int))) e) else (Z41.l0 R N n a b c d (w64 ((Int.fdiv (IntKind.wrap .u64 ((w64 (d + e)))) (2 ^ (min (Int.toNat (1:Int)) (IntKind.bits .u64))))))))))) else (bif (decide (d < c)) then ((idx? a d).bind fun y18 => ((callT R n_Z11 o_Z11 [⟨yL,(y18,()).1⟩,⟨yL,b⟩]).bind fun r19 => some ⟨o_Z40,(d,(r19.1 == (0:Int)),())⟩)) else some ⟨o_Z40,(d,false,())⟩)) := (hw _ _).trans (by kernel_rfl)
theorem Z41.ev (R:Run) (N:Nat) (a0:vK) (a1:(List Int)):evFn E R sg_Z40 pol_Z40 F_Z40 N [⟨yK,a0⟩,⟨yL,a1⟩,⟨(.fn n_Z11 .nil),()⟩] = (Z41.l0 R N N a0 a1 (List.length a0:Int) (0:Int) (List.length a0:Int)) := by kernel_rfl
theorem Z16.ev (R:Run) (N:Nat) (a0:vK) (a1:(List Int)):evFn E R sg_Z16 pol_Z16 F_Z16 N [⟨yK,a0⟩,⟨yL,a1⟩] = ((callT R n_Z40 o_Z40 [⟨yK,a0⟩,⟨yL,a1⟩,⟨(.fn n_Z11 .nil),()⟩]).bind fun r1 => (bif (!r1.2.1) then some ⟨o_Z16,((-1:Int),())⟩ else some ⟨o_Z16,(r1.1,())⟩)) := by kernel_rfl
theorem Z7.ev (R:Run) (N:Nat) (a0:(List Int)) (a1:(vK × Unit)) (a2:(Int × Unit)):evFn E R sg_Z7 pol_Z7 F_Z7 N [⟨yL,a0⟩,⟨(.ptr (.cons yK .nil)),a1⟩,⟨(.ptr (.cons yI .nil)),a2⟩] = ((chk (decide (0 ≤ a2.1) && decide (a2.1 ≤ (List.length a1.1:Int)))).bind fun _ => ((callT R n_Z16 o_Z16 [⟨yK,(List.take (Int.toNat a2.1) a1.1)⟩,⟨yL,a0⟩]).bind fun r1 => some ⟨o_Z7,((decide (r1.1 < (0:Int))),())⟩)) := by kernel_rfl
noncomputable def Z55.l0 (R:Run) (N n:Nat) (a:vK) (b:((vK × Unit) × (Int × Unit) × Unit)) (e f:Int):Option Dv := R.w (some ⟨(.c (.d yK a)::(.c (.d (.fn n_Z7 (.cons (.ptr (.cons yK .nil)) (.cons (.ptr (.cons yI .nil)) .nil))) b)::(zd 5 (.c (.d yI e)::(.c (.d yI f)::(zd 10 [])))))),(zo 21 [])⟩) fun st => lC R pol_Z54 2 N [1,0,1,0,0] F_Z54 n st (kB R pol_Z54 0 (kS R pol_Z54 7 N [1,1] F_Z54 (kTop E sg_Z54 F_Z54)))
theorem Z55.l0_succ (R:Run) (hw:R.ok) (N n:Nat) (a:vK) (b:((vK × Unit) × (Int × Unit) × Unit)) (c d:Int):Z55.l0 R N (n + 1) a b c d = (bif (decide (d < c)) then ((idx? a d).bind fun y5 => ((callT R n_Z7 o_Z7 [⟨yL,(y5,()).1⟩,⟨(.ptr (.cons yK .nil)),b.1⟩,⟨(.ptr (.cons yI .nil)),b.2.1⟩]).bind fun r6 => (bif r6.1 then some ⟨o_Z54,(d,())⟩ else (Z55.l0 R N n a b c (w64 (d + (1:Int))))))) else some ⟨o_Z54,((-1:Int),())⟩) := (hw _ _).trans (by kernel_rfl)
theorem Z55.ev (R:Run) (N:Nat) (a0:vK) (a1:((vK × Unit) × (Int × Unit) × Unit)):evFn E R sg_Z54 pol_Z54 F_Z54 N [⟨yK,a0⟩,⟨(.fn n_Z7 (.cons (.ptr (.cons yK .nil)) (.cons (.ptr (.cons yI .nil)) .nil))),a1⟩] = (Z55.l0 R N N a0 a1 (List.length a0:Int) (0:Int)) := by kernel_rfl
theorem Z47.ev (R:Run) (N:Nat) (a0:vK) (a1:((vK × Unit) × (Int × Unit) × Unit)):evFn E R sg_Z46 pol_Z46 F_Z46 N [⟨yK,a0⟩,⟨(.fn n_Z7 (.cons (.ptr (.cons yK .nil)) (.cons (.ptr (.cons yI .nil)) .nil))),a1⟩] = ((callT R n_Z54 o_Z54 [⟨yK,a0⟩,⟨(.fn n_Z7 (.cons (.ptr (.cons yK .nil)) (.cons (.ptr (.cons yI .nil)) .nil))),a1⟩]).bind fun r1 => some ⟨o_Z46,((decide (r1.1 ≥ (0:Int))),())⟩) := by kernel_rfl
noncomputable def Z6.j1 (R:Run) (N a:Nat) (b:(List Int)) (e:vK) (f g:Int) (h:Bool) (i:vK) (j:Int):Option Dv := R.w (some ⟨(V.dead::(.c (.box 1 0)::(V.dead::(.c (.box 3 0)::(.c (.d yL b)::(V.dead::(.c (.d yK e)::(.c (.d yI f)::(.c (.d yI g)::(zd 21 (.c (.d .bool h)::(zd 9 [])))))))))))),(none::(some (.box [.d yK i] true false)::(none::(some (.box [.d yI j] false false)::(zo 37 [])))))⟩) fun st => eC R pol_Z6 N [1,0,1,0,0,1,1,0,0,1,0,1] F_Z6 st (kS R pol_Z6 6 N [1,0,1,0,0,1,1,0,0,1,1] F_Z6 (kB R pol_Z6 1 (kS R pol_Z6 8 N [1,0,1,0,0,1,1,1] F_Z6 (kL R pol_Z6 2 N [1,0,1,0,0] F_Z6 a (kB R pol_Z6 0 (kS R pol_Z6 9 N [1,1] F_Z6 (kTop E sg_Z6 F_Z6)))))))
noncomputable def Z6.l0 (R:Run) (N n:Nat) (a:vK) (b e:Int) (f:vK):Option Dv := R.w (some ⟨(V.dead::(.c (.box 1 0)::(zd 4 (.c (.d yK a)::(.c (.d yI b)::(.c (.d yI e)::(zd 31 []))))))),(none::(some (.box [.d yK f] true false)::(zo 39 [])))⟩) fun st => lC R pol_Z6 2 N [1,0,1,0,0] F_Z6 n st (kB R pol_Z6 0 (kS R pol_Z6 9 N [1,1] F_Z6 (kTop E sg_Z6 F_Z6)))
theorem Z6.j1_eq (R:Run) (hw:R.ok) (N a:Nat) (b:(List Int)) (c:vK) (d e:Int) (f:Bool) (g:vK) (h:Int):Z6.j1 R N a b c d e f g h = (bif f then some ⟨o_Z6,(false,())⟩ else ((callT R n_Z13 o_Z13 [⟨yL,b⟩]).bind fun r14 => ((callT R n_Z46 o_Z46 [⟨yK,r14.1⟩,⟨(.fn n_Z7 (.cons (.ptr (.cons yK .nil)) (.cons (.ptr (.cons yI .nil)) .nil))),((g,()),(h,()),())⟩]).bind fun r15 => (bif r15.1 then some ⟨o_Z6,(false,())⟩ else (Z6.l0 R N a c d (w64 (e + (1:Int))) g))))) := (hw _ _).trans (by kernel_rfl)
theorem Z6.l0_succ (R:Run) (hw:R.ok) (N n:Nat) (a:vK) (b c:Int) (d:vK):Z6.l0 R N (n + 1) a b c d = (bif (decide (c < b)) then ((idx? a c).bind fun y5 => ((callT R n_Z8 o_Z8 [⟨yL,(y5,()).1⟩]).bind fun r6 => (bif (!r6.1) then (Z6.j1 R N n ((y5,()).1) a b c true d c) else (bif (decide (c > (0:Int))) then ((idx? d (w64 (c - (1:Int)))).bind fun y20 => ((callT R n_Z11 o_Z11 [⟨yL,(y20,()).1⟩,⟨yL,(y5,()).1⟩]).bind fun r21 => (Z6.j1 R N n ((y5,()).1) a b c (decide (r21.1 ≥ (0:Int))) d c))) else (Z6.j1 R N n ((y5,()).1) a b c false d c))))) else some ⟨o_Z6,((decide ((List.length d:Int) ≤ (48:Int))),())⟩) := (hw _ _).trans (by kernel_rfl)
theorem Z6.ev (R:Run) (N:Nat) (a0:vK):evFn E R sg_Z6 pol_Z6 F_Z6 N [⟨yK,a0⟩] = (Z6.l0 R N N a0 (List.length a0:Int) (0:Int) a0) := by kernel_rfl
noncomputable def Z42.j0 (R:Run) (N:Nat) (a:(List Int)) (b:Bool):Option Dv := R.w (some ⟨(.c (.d yL a)::(zd 3 (.c (.d .bool b)::(zd 3 [])))),(zo 9 [])⟩) fun st => eC R pol_Z42 N [1,0,1] F_Z42 st (kS R pol_Z42 3 N [1,1] F_Z42 (kTop E sg_Z42 F_Z42))
theorem Z42.j0_eq (R:Run) (hw:R.ok) (N:Nat) (a:(List Int)) (b:Bool):Z42.j0 R N a b = (bif b then some ⟨o_Z42,(([]:List Int),())⟩ else ((chk (decide ((List.length ([]:List Int) + List.length a) * 8 ≤ 70368744177664))).bind fun _ => some ⟨o_Z42,((([]:List Int) ++ a),())⟩)) := (hw _ _).trans (by kernel_rfl)
theorem Z42.ev (R:Run) (N:Nat) (a0:(List Int)):evFn E R sg_Z42 pol_Z42 F_Z42 N [⟨yL,a0⟩] = (bif (List.isEmpty a0) then (both (Z42.j0 R N a0 true) (Z42.j0 R N a0 false)) else (Z42.j0 R N a0 false)) := by kernel_rfl
noncomputable def Z12.l0 (R:Run) (N n:Nat) (a:vK) (b e:Int) (f:vK):Option Dv := R.w (some ⟨(zd 3 (.c (.arr 16)::(V.dead::(V.dead::(.c (.d yK a)::(.c (.d yI b)::(.c (.d yI e)::(zd 10 [])))))))),(zo 16 (some (.arr yL f true false false)::(zo 4 [])))⟩) fun st => lC R pol_Z12 3 N [1,1,0,1,0,0] F_Z12 n st (kB R pol_Z12 0 (kS R pol_Z12 7 N [1,1,1] F_Z12 (kTop E sg_Z12 F_Z12)))
theorem Z12.l0_succ (R:Run) (hw:R.ok) (N n:Nat) (a:vK) (b c:Int) (d:vK):Z12.l0 R N (n + 1) a b c d = (bif (decide (c < b)) then ((idx? a c).bind fun y5 => ((callT R n_Z42 o_Z42 [⟨yL,(y5,()).1⟩]).bind fun r6 => ((chk (decide ((List.length d + List.length [r6.1]) * 24 ≤ 70368744177664))).bind fun _ => (Z12.l0 R N n a b (w64 (c + (1:Int))) (d ++ [r6.1]))))) else some ⟨o_Z12,(d,())⟩) := (hw _ _).trans (by kernel_rfl)
theorem Z12.ev (R:Run) (N:Nat) (a0:vK):evFn E R sg_Z12 pol_Z12 F_Z12 N [⟨yK,a0⟩] = (Z12.l0 R N N a0 (List.length a0:Int) (0:Int) ([]:List (List Int))) := by kernel_rfl
noncomputable def Z52.l0 (R:Run) (N n:Nat) (a b:(List Int)) (e f:Int):Option Dv := R.w (some ⟨(.c (.d yL a)::(.c (.d yL b)::(zd 10 (.c (.d yI e)::(.c (.d yI f)::(zd 12 [])))))),(zo 28 [])⟩) fun st => lC R pol_Z52 4 N [1,1,0,1,0,0] F_Z52 n st (kB R pol_Z52 0 (kS R pol_Z52 9 N [1,1,1] F_Z52 (kTop E sg_Z52 F_Z52)))
theorem Z52.l0_succ (R:Run) (hw:R.ok) (N n:Nat) (a b:(List Int)) (c d:Int):Z52.l0 R N (n + 1) a b c d = (bif (decide (d < c)) then ((idx? a d).bind fun y5 => ((idx? b d).bind fun y6 => (bif ((y5,()).1 != (y6,()).1) then some ⟨o_Z52,(false,())⟩ else (Z52.l0 R N n a b c (w64 (d + (1:Int))))))) else some ⟨o_Z52,(true,())⟩) := (hw _ _).trans (by kernel_rfl)
theorem Z52.ev (R:Run) (N:Nat) (a0 a1:(List Int)):evFn E R sg_Z52 pol_Z52 F_Z52 N [⟨yL,a0⟩,⟨yL,a1⟩] = (bif ((List.length a0:Int) != (List.length a1:Int)) then some ⟨o_Z52,(false,())⟩ else (Z52.l0 R N N a0 a1 (List.length a0:Int) (0:Int))) := by kernel_rfl
theorem Z15.ev (R:Run) (N:Nat) (a0:vK):evFn E R sg_Z15 pol_Z15 F_Z15 N [⟨yK,a0⟩] = ((callT R n_Z12 o_Z12 [⟨yK,a0⟩]).bind fun r1 => ((callT R n_Z60 o_Z60 [⟨yK,r1.1⟩,⟨(.fn n_Z11 .nil),()⟩]).bind fun r2 => ((callT R n_Z43 o_Z43 [⟨yK,r2.1⟩,⟨(.fn n_Z52 .nil),()⟩]).bind fun r3 => some ⟨o_Z15,(r3.1,())⟩))) := by kernel_rfl
theorem Z21.ev (R:Run) (N:Nat) (a0:vK):evFn E R sg_Z21 pol_Z21 F_Z21 N [⟨yK,a0⟩] = some ⟨o_Z21,((List.length a0:Int),())⟩ := by kernel_rfl
noncomputable def Z59.l0 (R:Run) (N n:Nat) (a:(List Int)) (b e f:Int):Option Dv := R.w (some ⟨(.c (.d yL a)::(.c (.d yI b)::(zd 5 (.c (.d yI e)::(.c (.d yI f)::(zd 10 [])))))),(zo 21 [])⟩) fun st => lC R pol_Z59 2 N [1,0,1,0,0] F_Z59 n st (kB R pol_Z59 0 (kS R pol_Z59 7 N [1,1] F_Z59 (kTop E sg_Z59 F_Z59)))
theorem Z59.l0_succ (R:Run) (hw:R.ok) (N n:Nat) (a:(List Int)) (b c d:Int):Z59.l0 R N (n + 1) a b c d = (bif (decide (d < c)) then ((idx? a d).bind fun y5 => (bif (b == (y5,()).1) then some ⟨o_Z59,(d,())⟩ else (Z59.l0 R N n a b c (w64 (d + (1:Int)))))) else some ⟨o_Z59,((-1:Int),())⟩) := (hw _ _).trans (by kernel_rfl)
theorem Z59.ev (R:Run) (N:Nat) (a0:(List Int)) (a1:Int):evFn E R sg_Z59 pol_Z59 F_Z59 N [⟨yL,a0⟩,⟨yI,a1⟩] = (Z59.l0 R N N a0 a1 (List.length a0:Int) (0:Int)) := by kernel_rfl
theorem Z51.ev (R:Run) (N:Nat) (a0:(List Int)) (a1:Int):evFn E R sg_Z51 pol_Z51 F_Z51 N [⟨yL,a0⟩,⟨yI,a1⟩] = ((callT R n_Z59 o_Z59 [⟨yL,a0⟩,⟨yI,a1⟩]).bind fun r1 => some ⟨o_Z51,((decide (r1.1 ≥ (0:Int))),())⟩) := by kernel_rfl
theorem Z18.ev (R:Run) (N:Nat) (a0:Int) (a1:((List Int) × Unit)):evFn E R sg_Z18 pol_Z18 F_Z18 N [⟨yI,a0⟩,⟨(.ptr (.cons yL .nil)),a1⟩] = ((callT R n_Z51 o_Z51 [⟨yL,a1.1⟩,⟨yI,a0⟩]).bind fun r1 => some ⟨o_Z18,((!r1.1),())⟩) := by kernel_rfl
noncomputable def Z58.l0 (R:Run) (N n:Nat) (a:(List Int)) (b:(((List Int) × Unit) × Unit)) (e f:Int):Option Dv := R.w (some ⟨(.c (.d yL a)::(.c (.d (.fn n_Z18 (.cons (.ptr (.cons yL .nil)) .nil)) b)::(zd 5 (.c (.d yI e)::(.c (.d yI f)::(zd 10 [])))))),(zo 21 [])⟩) fun st => q0_4 R N n st (kB R pol_Z56 0 (q0_2 R N (kTop E sg_Z56 F_Z56)))
theorem Z58.l0_succ (R:Run) (hw:R.ok) (N n:Nat) (a:(List Int)) (b:(((List Int) × Unit) × Unit)) (c d:Int):Z58.l0 R N (n + 1) a b c d = (bif (decide (d < c)) then ((idx? a d).bind fun y5 => ((callT R n_Z18 o_Z18 [⟨yI,(y5,()).1⟩,⟨(.ptr (.cons yL .nil)),b.1⟩]).bind fun r6 => (bif r6.1 then some ⟨o_Z56,(d,())⟩ else (Z58.l0 R N n a b c (w64 (d + (1:Int))))))) else some ⟨o_Z56,((-1:Int),())⟩) := (hw _ _).trans (by kernel_rfl)
theorem Z58.ev (R:Run) (N:Nat) (a0:(List Int)) (a1:(((List Int) × Unit) × Unit)):evFn E R sg_Z56 pol_Z56 F_Z56 N [⟨yL,a0⟩,⟨(.fn n_Z18 (.cons (.ptr (.cons yL .nil)) .nil)),a1⟩] = (Z58.l0 R N N a0 a1 (List.length a0:Int) (0:Int)) := by kernel_rfl
theorem Z50.ev (R:Run) (N:Nat) (a0:(List Int)) (a1:(((List Int) × Unit) × Unit)):evFn E R sg_Z48 pol_Z48 F_Z48 N [⟨yL,a0⟩,⟨(.fn n_Z18 (.cons (.ptr (.cons yL .nil)) .nil)),a1⟩] = ((callT R n_Z56 o_Z56 [⟨yL,a0⟩,⟨(.fn n_Z18 (.cons (.ptr (.cons yL .nil)) .nil)),a1⟩]).bind fun r1 => some ⟨o_Z48,((decide (r1.1 ≥ (0:Int))),())⟩) := by kernel_rfl
theorem Z17.ev (R:Run) (N:Nat) (a0 a1:(List Int)):evFn E R sg_Z17 pol_Z17 F_Z17 N [⟨yL,a0⟩,⟨yL,a1⟩] = ((callT R n_Z48 o_Z48 [⟨yL,a0⟩,⟨(.fn n_Z18 (.cons (.ptr (.cons yL .nil)) .nil)),((a1,()),())⟩]).bind fun r1 => some ⟨o_Z17,((!r1.1),())⟩) := by kernel_rfl
noncomputable def Z22.l0 (R:Run) (N n:Nat) (a:Int) (b:vK) (e f:Int) (g:vK) (h:(List Int)):Option Dv := R.w (some ⟨(V.dead::(.c (.d yI a)::(.c (.box 2 0)::(V.dead::(V.dead::(.c (.arr 26)::(zd 3 (.c (.d yK b)::(.c (.d yI e)::(.c (.d yI f)::(zd 17 []))))))))))),(none::(none::(some (.box [.d yK g] false false)::(zo 23 (some (.arr yI h true false false)::(zo 4 []))))))⟩) fun st => lC R pol_Z22 3 N [1,1,0,1,0,0] F_Z22 n st (kB R pol_Z22 0 (kS R pol_Z22 8 N [1,1,1] F_Z22 (kTop E sg_Z22 F_Z22)))
theorem Z22.l0_succ (R:Run) (hw:R.ok) (N n:Nat) (a:Int) (b:vK) (c d:Int) (e:vK) (f:(List Int)):Z22.l0 R N (n + 1) a b c d e f = (bif (decide (d < c)) then ((idx? b d).bind fun y7 => ((idx? e a).bind fun y8 => ((callT R n_Z17 o_Z17 [⟨yL,(y8,()).1⟩,⟨yL,(y7,()).1⟩]).bind fun r9 => (bif r9.1 then ((chk (decide ((List.length f + List.length [d]) * 8 ≤ 70368744177664))).bind fun _ => (Z22.l0 R N n a b c (w64 (d + (1:Int))) e (f ++ [d]))) else (Z22.l0 R N n a b c (w64 (d + (1:Int))) e f))))) else some ⟨o_Z22,(f,())⟩) := (hw _ _).trans (by kernel_rfl)
theorem Z22.ev (R:Run) (N:Nat) (a0:vK) (a1:Int):evFn E R sg_Z22 pol_Z22 F_Z22 N [⟨yK,a0⟩,⟨yI,a1⟩] = (Z22.l0 R N N a1 a0 (List.length a0:Int) (0:Int) a0 ([]:List Int)) := by kernel_rfl
noncomputable def Z14.l0 (R:Run) (N n:Nat) (a b:Int) (e f:vK):Option Dv := R.w (some ⟨(V.dead::(.c (.box 1 0)::(V.dead::(.c (.arr 25)::(zd 4 (.c (.d yI a)::(.c (.d yI b)::(zd 18 [])))))))),(none::(some (.box [.d yK e] false false)::(zo 23 (some (.arr yL f true false false)::(zo 3 [])))))⟩) fun st => lC R pol_Z14 3 N [1,1,0,1,0,0] F_Z14 n st (kB R pol_Z14 0 (kS R pol_Z14 9 N [1,1,1] F_Z14 (kTop E sg_Z14 F_Z14)))
theorem Z14.l0_succ (R:Run) (hw:R.ok) (N n:Nat) (a b:Int) (c d:vK):Z14.l0 R N (n + 1) a b c d = (bif (decide (b < a)) then ((callT R n_Z22 o_Z22 [⟨yK,c⟩,⟨yI,b⟩]).bind fun r6 => (bif ((List.length r6.1:Int) == (2:Int)) then ((idx? r6.1 (1:Int)).bind fun y7 => ((chk (decide ((List.length d + List.length [[b,(y7,()).1]]) * 24 ≤ 70368744177664))).bind fun _ => (Z14.l0 R N n a (w64 (b + (1:Int))) c (d ++ [[b,(y7,()).1]])))) else (Z14.l0 R N n a (w64 (b + (1:Int))) c d))) else some ⟨o_Z14,(d,())⟩) := (hw _ _).trans (by kernel_rfl)
theorem Z14.ev (R:Run) (N:Nat) (a0:vK):evFn E R sg_Z14 pol_Z14 F_Z14 N [⟨yK,a0⟩] = ((callT R n_Z21 o_Z21 [⟨yK,a0⟩]).bind fun r1 => (Z14.l0 R N N r1.1 (0:Int) a0 ([]:List (List Int)))) := by kernel_rfl
noncomputable def Z10.l0 (R:Run) (N n:Nat) (a:(List Int)) (b:vK) (e f:Int) (g:vK):Option Dv := R.w (some ⟨(V.dead::(.c (.d yL a)::(V.dead::(V.dead::(.c (.box 4 0)::(.c (.arr 23)::(zd 3 (.c (.d yK b)::(.c (.d yI e)::(.c (.d yI f)::(zd 15 []))))))))))),(zo 4 (some (.box [.nils yL] false false)::(zo 18 (some (.arr yL g false false false)::(zo 6 [])))))⟩) fun st => lC R pol_Z10 3 N [1,1,0,1,0,0] F_Z10 n st (kB R pol_Z10 0 (kS R pol_Z10 8 N [1,1,1] F_Z10 (kTop E sg_Z10 F_Z10)))
theorem Z10.l0_succ (R:Run) (hw:R.ok) (N n:Nat) (a:(List Int)) (b:vK) (c d:Int) (e:vK):Z10.l0 R N (n + 1) a b c d e = (bif (decide (d < c)) then ((idx? b d).bind fun y6 => ((callT R n_Z51 o_Z51 [⟨yL,a⟩,⟨yI,d⟩]).bind fun r7 => (bif (!r7.1) then ((chk (decide ((List.length e + List.length [(y6,()).1]) * 24 ≤ 70368744177664))).bind fun _ => (Z10.l0 R N n a b c (w64 (d + (1:Int))) (e ++ [(y6,()).1]))) else (Z10.l0 R N n a b c (w64 (d + (1:Int))) e)))) else ((callT R n_Z15 o_Z15 [⟨yK,e⟩]).bind fun r18 => some ⟨o_Z10,(r18.1,())⟩)) := (hw _ _).trans (by kernel_rfl)
theorem Z10.ev (R:Run) (N:Nat) (a0:vK) (a1:(List Int)):evFn E R sg_Z10 pol_Z10 F_Z10 N [⟨yK,a0⟩,⟨yL,a1⟩] = (Z10.l0 R N N a1 a0 (List.length a0:Int) (0:Int) ([]:List (List Int))) := by kernel_rfl
noncomputable def Z5.l0 (R:Run) (N n:Nat) (a:Int) (b e:vK):Option Dv := R.w (some ⟨(V.dead::(.c (.box 1 0)::(.c (.box 2 0)::(V.dead::(V.dead::(.c (.d yI a)::(.c (.d yK b)::(zd 23 [])))))))),(none::(some (.box [.arr 31] false false)::(some (.box [.nils yL] false false)::(zo 28 (some (.arr yL e true false false)::[])))))⟩) fun st => lC R pol_Z5 6 N [1,1,1,1,0,1,0,0] F_Z5 n st (kB R pol_Z5 0 (kS R pol_Z5 10 N [1,1,1,1,1] F_Z5 (kTop E sg_Z5 F_Z5)))
theorem Z5.l0_succ (R:Run) (hw:R.ok) (N n:Nat) (a:Int) (b c:vK):Z5.l0 R N (n + 1) a b c = (bif (decide ((List.length b:Int) > (0:Int))) then ((idx? b (0:Int)).bind fun y7 => ((callT R n_Z10 o_Z10 [⟨yK,c⟩,⟨yL,(y7,()).1⟩]).bind fun r8 => ((callT R n_Z14 o_Z14 [⟨yK,r8.1⟩]).bind fun r9 => (Z5.l0 R N n (w64 (a + (1:Int))) r9.1 r8.1)))) else some ⟨o_Z5,(c,a,(0:Int),())⟩) := (hw _ _).trans (by kernel_rfl)
theorem Z5.ev (R:Run) (N:Nat) (a0:vK):evFn E R sg_Z5 pol_Z5 F_Z5 N [⟨yK,a0⟩] = ((callT R n_Z6 o_Z6 [⟨yK,a0⟩]).bind fun r1 => (bif (!r1.1) then some ⟨o_Z5,(([]:List (List Int)),(0:Int),(1:Int),())⟩ else ((callT R n_Z15 o_Z15 [⟨yK,a0⟩]).bind fun r2 => ((callT R n_Z14 o_Z14 [⟨yK,r2.1⟩]).bind fun r3 => (Z5.l0 R N N (0:Int) r3.1 r2.1))))) := by kernel_rfl
noncomputable def Z26.l0 (R:Run) (N n:Nat) (a b:(List Int)) (e:Int):Option Dv := R.w (some ⟨(.c (.d yL a)::(.c (.d yL b)::(zd 3 (.c (.d yI e)::(zd 20 []))))),(zo 28 [])⟩) fun st => lC R pol_Z26 4 N [1,1,0,1,0,0] F_Z26 n st (kB R pol_Z26 0 (kS R pol_Z26 8 N [1,1,1] F_Z26 (kTop E sg_Z26 F_Z26)))
theorem Z26.l0_succ (R:Run) (hw:R.ok) (N n:Nat) (a b:(List Int)) (c:Int):Z26.l0 R N (n + 1) a b c = (bif (decide (c < (List.length a:Int))) then ((idx? a c).bind fun y4 => ((idx? b c).bind fun y5 => (bif ((y4,()).1 != (y5,()).1) then some ⟨o_Z26,(false,())⟩ else (Z26.l0 R N n a b (w64 (c + (1:Int))))))) else some ⟨o_Z26,(true,())⟩) := (hw _ _).trans (by kernel_rfl)
theorem Z26.ev (R:Run) (N:Nat) (a0 a1:(List Int)):evFn E R sg_Z26 pol_Z26 F_Z26 N [⟨yL,a0⟩,⟨yL,a1⟩] = (bif ((List.length a0:Int) != (List.length a1:Int)) then some ⟨o_Z26,(false,())⟩ else (Z26.l0 R N N a0 a1 (0:Int))) := by kernel_rfl
noncomputable def Z27.l0 (R:Run) (N n:Nat) (a b:vK) (e:Int):Option Dv := R.w (some ⟨(.c (.d yK a)::(.c (.d yK b)::(zd 3 (.c (.d yI e)::(zd 21 []))))),(zo 29 [])⟩) fun st => lC R pol_Z27 4 N [1,1,0,1,0,0] F_Z27 n st (kB R pol_Z27 0 (kS R pol_Z27 8 N [1,1,1] F_Z27 (kTop E sg_Z27 F_Z27)))
theorem Z27.l0_succ (R:Run) (hw:R.ok) (N n:Nat) (a b:vK) (c:Int):Z27.l0 R N (n + 1) a b c = (bif (decide (c < (List.length a:Int))) then ((idx? a c).bind fun y4 => ((idx? b c).bind fun y5 => ((callT R n_Z26 o_Z26 [⟨yL,(y4,()).1⟩,⟨yL,(y5,()).1⟩]).bind fun r6 => (bif (!r6.1) then some ⟨o_Z27,(false,())⟩ else (Z27.l0 R N n a b (w64 (c + (1:Int)))))))) else some ⟨o_Z27,(true,())⟩) := (hw _ _).trans (by kernel_rfl)
theorem Z27.ev (R:Run) (N:Nat) (a0 a1:vK):evFn E R sg_Z27 pol_Z27 F_Z27 N [⟨yK,a0⟩,⟨yK,a1⟩] = (bif ((List.length a0:Int) != (List.length a1:Int)) then some ⟨o_Z27,(false,())⟩ else (Z27.l0 R N N a0 a1 (0:Int))) := by kernel_rfl
theorem Z25.ev (R:Run) (N:Nat) (a0 a1:vK):evFn E R sg_Z25 pol_Z25 F_Z25 N [⟨yK,a0⟩,⟨yK,a1⟩] = ((callT R n_Z27 o_Z27 [⟨yK,a0⟩,⟨yK,a1⟩]).bind fun r1 => (bif (!r1.1) then some ⟨o_Z25,(false,())⟩ else some ⟨o_Z25,(true,())⟩)) := by kernel_rfl
noncomputable def Z32.l0 (R:Run) (N n:Nat) (a b:Int) (e:(List Int)):Option Dv := R.w (some ⟨(.c (.arr 19)::(.c (.d yI a)::(zd 3 (.c (.d yI b)::(zd 13 []))))),(zo 19 (some (.arr yI e true false true)::(none::[])))⟩) fun st => lC R pol_Z32 2 N [1,0,1,0,0] F_Z32 n st (kB R pol_Z32 0 (kS R pol_Z32 6 N [1,1] F_Z32 (kTop E sg_Z32 F_Z32)))
theorem Z32.l0_succ (R:Run) (hw:R.ok) (N n:Nat) (a b:Int) (c:(List Int)):Z32.l0 R N (n + 1) a b c = (bif (decide (b < (List.length c:Int))) then ((chk (decide (0 ≤ b) && decide (b < (List.length c:Int)))).bind fun _ => (Z32.l0 R N n (w64 (a + (1:Int))) (w64 (b + (1:Int))) (List.set c (Int.toNat b) a))) else some ⟨o_Z32,(a,c,())⟩) := (hw _ _).trans (by kernel_rfl)
theorem Z32.ev (R:Run) (N:Nat) (a0:(List Int)) (a1:Int):evFn E R sg_Z32 pol_Z32 F_Z32 N [⟨yL,a0⟩,⟨yI,a1⟩] = (Z32.l0 R N N a1 (0:Int) a0) := by kernel_rfl
theorem Z31.ev (R:Run) (N:Nat) (a0:vK) (a1:Int):evFn E R sg_Z31 pol_Z31 F_Z31 N [⟨yK,a0⟩,⟨yI,a1⟩] = ((callT R n_Z33 o_Z33 [⟨yK,a0⟩,⟨yI,a1⟩]).bind fun r1 => some ⟨o_Z31,(r1.1,r1.2.1,())⟩) := by kernel_rfl
noncomputable def Z29.l0 (R:Run) (N n:Nat) (a:(List Int)) (b e:Int):Option Dv := R.w (some ⟨(.c (.d yL a)::(.c (.d yI b)::(zd 3 (.c (.d yI e)::(zd 15 []))))),(zo 23 [])⟩) fun st => lC R pol_Z29 2 N [1,0,1,0,0] F_Z29 n st (kB R pol_Z29 0 (kS R pol_Z29 7 N [1,1] F_Z29 (kTop E sg_Z29 F_Z29)))
theorem Z29.l0_succ (R:Run) (hw:R.ok) (N n:Nat) (a:(List Int)) (b c:Int):Z29.l0 R N (n + 1) a b c = (bif (decide (c < (List.length a:Int))) then ((idx? a c).bind fun y4 => (bif ((y4,()).1 != b) then some ⟨o_Z29,((-1:Int),())⟩ else (Z29.l0 R N n a (w64 (b + (1:Int))) (w64 (c + (1:Int)))))) else some ⟨o_Z29,(b,())⟩) := (hw _ _).trans (by kernel_rfl)
theorem Z29.ev (R:Run) (N:Nat) (a0:(List Int)) (a1:Int):evFn E R sg_Z29 pol_Z29 F_Z29 N [⟨yL,a0⟩,⟨yI,a1⟩] = (Z29.l0 R N N a0 a1 (0:Int)) := by kernel_rfl
noncomputable def Z30.l0 (R:Run) (N n:Nat) (a:vK) (b e:Int):Option Dv := R.w (some ⟨(.c (.d yK a)::(.c (.d yI b)::(zd 3 (.c (.d yI e)::(zd 15 []))))),(zo 23 [])⟩) fun st => lC R pol_Z30 2 N [1,0,1,0,0] F_Z30 n st (kB R pol_Z30 0 (kS R pol_Z30 7 N [1,1] F_Z30 (kTop E sg_Z30 F_Z30)))
theorem Z30.l0_succ (R:Run) (hw:R.ok) (N n:Nat) (a:vK) (b c:Int):Z30.l0 R N (n + 1) a b c = (bif (decide (c < (List.length a:Int))) then ((idx? a c).bind fun y4 => ((callT R n_Z29 o_Z29 [⟨yL,(y4,()).1⟩,⟨yI,b⟩]).bind fun r5 => (bif (decide (r5.1 < (0:Int))) then some ⟨o_Z30,((-1:Int),())⟩ else (Z30.l0 R N n a r5.1 (w64 (c + (1:Int))))))) else some ⟨o_Z30,(b,())⟩) := (hw _ _).trans (by kernel_rfl)
theorem Z30.ev (R:Run) (N:Nat) (a0:vK) (a1:Int):evFn E R sg_Z30 pol_Z30 F_Z30 N [⟨yK,a0⟩,⟨yI,a1⟩] = (Z30.l0 R N N a0 a1 (0:Int)) := by kernel_rfl
theorem Z28.ev (R:Run) (N:Nat) (a0:vK) (a1:Int):evFn E R sg_Z28 pol_Z28 F_Z28 N [⟨yK,a0⟩,⟨yI,a1⟩] = ((callT R n_Z30 o_Z30 [⟨yK,a0⟩,⟨yI,a1⟩]).bind fun r1 => (bif (decide (r1.1 < (0:Int))) then some ⟨o_Z28,((-1:Int),())⟩ else some ⟨o_Z28,(r1.1,())⟩)) := by kernel_rfl
noncomputable def Z24.j2 (R:Run) (N:Nat) (a:Int) (b:Bool) (e:vK):Option Dv := R.w (some ⟨(zd 8 (.c (.box 8 0)::(zd 3 (.c (.d yI a)::(zd 95 (.c (.d .bool b)::(zd 8 []))))))),(zo 8 (some (.box [.arr 119] false false)::(zo 110 (some (.arr yL e true false false)::[]))))⟩) fun st => eC R pol_Z24 N [1,1,1,1,1,1,1,1,1,1,1,1,1,1,1,1,1,1,1,0,1] F_Z24 st (kS R pol_Z24 27 N [1,1,1,1,1,1,1,1,1,1,1,1,1,1,1,1,1,1,1,1] F_Z24 (kTop E sg_Z24 F_Z24))
noncomputable def Z24.j1 (R:Run) (N:Nat) (a b:Int) (e:Bool) (f g h:vK):Option Dv := R.w (some ⟨(V.dead::(.c (.box 1 0)::(V.dead::(V.dead::(.c (.box 4 0)::(.c (.d yI a)::(.c (.d yI b)::(V.dead::(.c (.box 8 0)::(zd 67 (.c (.d .bool e)::(zd 40 [])))))))))))),(none::(some (.box [.d yK f] false false)::(none::(none::(some (.box [.d yK g] false false)::(zo 3 (some (.box [.arr 119] false false)::(zo 110 (some (.arr yL h true false false)::[])))))))))⟩) fun st => eC R pol_Z24 N [1,1,1,1,1,1,1,1,1,1,1,0,1] F_Z24 st (kS R pol_Z24 16 N [1,1,1,1,1,1,1,1,1,1,1,1] F_Z24 (kTop E sg_Z24 F_Z24))
noncomputable def Z24.j0 (R:Run) (N:Nat) (a b e f:Int) (g:Bool) (h i j k:vK):Option Dv := R.w (some ⟨(V.dead::(.c (.box 1 0)::(V.dead::(V.dead::(.c (.box 4 0)::(.c (.d yI a)::(.c (.d yI b)::(.c (.box 7 0)::(.c (.box 8 0)::(.c (.d yI e)::(.c (.d yI f)::(zd 39 (.c (.d .bool g)::(zd 66 [])))))))))))))),(none::(some (.box [.d yK h] false false)::(none::(none::(some (.box [.d yK i] false false)::(none::(none::(some (.box [.arr 118] false false)::(some (.box [.arr 119] false false)::(zo 109 (some (.arr yL j true false false)::(some (.arr yL k true false false)::[]))))))))))))⟩) fun st => eC R pol_Z24 N [1,1,1,1,1,1,1,0,1] F_Z24 st (kS R pol_Z24 10 N [1,1,1,1,1,1,1,1] F_Z24 (kTop E sg_Z24 F_Z24))
theorem Z24.j2_eq (R:Run) (hw:R.ok) (N:Nat) (a:Int) (b:Bool) (c:vK):Z24.j2 R N a b c = (bif b then some ⟨o_Z24,(false,())⟩ else ((callT R n_Z28 o_Z28 [⟨yK,c⟩,⟨yI,(1:Int)⟩]).bind fun r33 => (bif (decide (r33.1 < (0:Int))) then some ⟨o_Z24,(false,())⟩ else (bif (r33.1 != a) then some ⟨o_Z24,(false,())⟩ else some ⟨o_Z24,(true,())⟩)))) := (hw _ _).trans (by kernel_rfl)
theorem Z24.j1_eq (R:Run) (hw:R.ok) (N:Nat) (a b:Int) (c:Bool) (d e f:vK):Z24.j1 R N a b c d e f = (bif c then some ⟨o_Z24,(false,())⟩ else ((callT R n_Z31 o_Z31 [⟨yK,f⟩,⟨yI,(1:Int)⟩]).bind fun r25 => ((callT R n_Z28 o_Z28 [⟨yK,r25.2.1⟩,⟨yI,(1:Int)⟩]).bind fun r26 => (bif (decide (r26.1 < (0:Int))) then some ⟨o_Z24,(false,())⟩ else (bif (r26.1 != r25.1) then some ⟨o_Z24,(false,())⟩ else ((callT R n_Z37 o_Z37 [⟨yK,d⟩]).bind fun r27 => ((callT R n_Z5 o_Z5 [⟨yK,r27.1⟩]).bind fun r28 => ((callT R n_Z25 o_Z25 [⟨yK,r28.1⟩,⟨yK,e⟩]).bind fun r29 => (bif (!r29.1) then (Z24.j2 R N r25.1 true r25.2.1) else (bif (r28.2.1 != a) then (Z24.j2 R N r25.1 true r25.2.1) else (Z24.j2 R N r25.1 (r28.2.2.1 != b) r25.2.1))))))))))) := (hw _ _).trans (by kernel_rfl)
theorem Z24.j0_eq (R:Run) (hw:R.ok) (N:Nat) (a b c d:Int) (e:Bool) (f g h i:vK):Z24.j0 R N a b c d e f g h i = (bif e then some ⟨o_Z24,(false,())⟩ else ((callT R n_Z37 o_Z37 [⟨yK,f⟩]).bind fun r16 => ((callT R n_Z25 o_Z25 [⟨yK,h⟩,⟨yK,r16.1⟩]).bind fun r17 => (bif (!r17.1) then some ⟨o_Z24,(false,())⟩ else ((callT R n_Z31 o_Z31 [⟨yK,h⟩,⟨yI,(1:Int)⟩]).bind fun r18 => (bif (decide (r18.1 < (0:Int))) then (Z24.j1 R N a b true f g i) else ((callT R n_Z25 o_Z25 [⟨yK,i⟩,⟨yK,g⟩]).bind fun r40 => (bif (!r40.1) then (Z24.j1 R N a b true f g i) else (bif (c != a) then (Z24.j1 R N a b true f g i) else (Z24.j1 R N a b (d != b) f g i)))))))))) := (hw _ _).trans (by kernel_rfl)
theorem Z24.ev (R:Run) (N:Nat) (a0:vK):evFn E R sg_Z24 pol_Z24 F_Z24 N [⟨yK,a0⟩] = ((callT R n_Z34 o_Z34 [⟨yK,a0⟩,⟨yI,(1048576:Int)⟩]).bind fun r1 => (bif (decide (r1.1 < (0:Int))) then some ⟨o_Z24,(true,())⟩ else ((callT R n_Z37 o_Z37 [⟨yK,a0⟩]).bind fun r2 => ((callT R n_Z61 o_Z61 [⟨yK,r2.1⟩]).bind fun r3 => ((callT R n_Z37 o_Z37 [⟨yK,a0⟩]).bind fun r4 => ((callT R n_Z5 o_Z5 [⟨yK,r4.1⟩]).bind fun r5 => ((callT R n_Z25 o_Z25 [⟨yK,r5.1⟩,⟨yK,r3.1⟩]).bind fun r6 => (bif (!r6.1) then (Z24.j0 R N r3.2.1 r3.2.2.1 r5.2.1 r5.2.2.1 true a0 r3.1 r4.1 r5.1) else (bif (r5.2.1 != r3.2.1) then (Z24.j0 R N r3.2.1 r3.2.2.1 r5.2.1 r5.2.2.1 true a0 r3.1 r4.1 r5.1) else (Z24.j0 R N r3.2.1 r3.2.2.1 r5.2.1 r5.2.2.1 (r5.2.2.1 != r3.2.2.1) a0 r3.1 r4.1 r5.1)))))))))) := by kernel_rfl
end VeT


set_option linter.unusedVariables false
set_option linter.unusedSimpArgs false
namespace Go.Proofs
open Go.Shelf
def Try.sortf66_ren : Go.Shelf.Ren := ⟨fun | 6 => 66 | 15 => 95 | 14 => 94 | 28 => 112 | 29 => 113 | 20 => 104 | 21 => 105 | 22 => 106 | 23 => 107 | 24 => 108 | 25 => 109 | 26 => 110 | 27 => 111 | 46 => 116 | 47 => 117 | 48 => 118 | 49 => 119 | 50 => 120 | 57 => 121 | n => n, fun | 22 => 22 | 24 => 36 | 25 => 81 | 3 => 3 | 39 => 105 | 0 => 0 | 53 => 119 | 55 => 121 | 4 => 4 | 46 => 113 | 45 => 112 | 50 => 101 | 5 => 5 | 9 => 9 | 66 => 122 | 70 => 126 | 76 => 128 | 77 => 129 | n => n, fun | n => n⟩
theorem Try.sortf66 : Go.Proofs.SlLaysF.n6 Try.prog Try.sortf66_ren := {
  mixed := by kernel_rfl
  f6 := ⟨Try.f66.name, by decide, Try.func66.trans (congrArg some (by kernel_rfl))⟩
  f14 := ⟨Try.f94.name, by decide, Try.func94.trans (congrArg some (by kernel_rfl))⟩
  f15 := Try.func95.trans (congrArg some (by kernel_rfl))
  f20 := ⟨Try.f104.name, by decide, Try.func104.trans (congrArg some (by kernel_rfl))⟩
  f21 := ⟨Try.f105.name, by decide, Try.func105.trans (congrArg some (by kernel_rfl))⟩
  f22 := ⟨Try.f106.name, by decide, Try.func106.trans (congrArg some (by kernel_rfl))⟩
  f23 := ⟨Try.f107.name, by decide, Try.func107.trans (congrArg some (by kernel_rfl))⟩
  f24 := ⟨Try.f108.name, by decide, Try.func108.trans (congrArg some (by kernel_rfl))⟩
  f25 := ⟨Try.f109.name, by decide, Try.func109.trans (congrArg some (by kernel_rfl))⟩
  f26 := ⟨Try.f110.name, by decide, Try.func110.trans (congrArg some (by kernel_rfl))⟩
  f27 := ⟨Try.f111.name, by decide, Try.func111.trans (congrArg some (by kernel_rfl))⟩
  f28 := Try.func112.trans (congrArg some (by kernel_rfl))
  f29 := Try.func113.trans (congrArg some (by kernel_rfl))
  f46 := ⟨Try.f116.name, by decide, Try.func116.trans (congrArg some (by kernel_rfl))⟩
  f47 := Try.func117.trans (congrArg some (by kernel_rfl))
  f48 := Try.func118.trans (congrArg some (by kernel_rfl))
  f49 := ⟨Try.f119.name, by decide, Try.func119.trans (congrArg some (by kernel_rfl))⟩
  f50 := ⟨Try.f120.name, by decide, Try.func120.trans (congrArg some (by kernel_rfl))⟩
  f57 := ⟨Try.f121.name, by decide, Try.func121.trans (congrArg some (by kernel_rfl))⟩
  t0 := Try.underlying0
  a0 := Try.isAgg0
  z0 := Try.sizeOf0
  v0 := Try.zeroValue0
  t3 := Try.underlying3
  a3 := Try.isAgg3
  z3 := Try.sizeOf3
  v3 := Try.zeroValue3
  t4 := Try.underlying4
  a4 := Try.isAgg4
  z4 := Try.sizeOf4
  v4 := Try.zeroValue4
  t5 := Try.underlying5
  a5 := Try.isAgg5
  z5 := Try.sizeOf5
  v5 := Try.zeroValue5
  t9 := Try.underlying9
  a9 := Try.isAgg9
  z9 := Try.sizeOf9
  v9 := Try.zeroValue9
  t22 := Try.underlying22
  a22 := Try.isAgg22
  z22 := Try.sizeOf22
  v22 := Try.zeroValue22
  a24 := Try.isAgg36
  z24 := Try.sizeOf36
  t25 := Try.underlying81
  a25 := Try.isAgg81
  z25 := Try.sizeOf81
  v25 := Try.zeroValue81
  t39 := Try.underlying105
  a39 := Try.isAgg105
  z39 := Try.sizeOf105
  v39 := Try.zeroValue105
  t45 := Try.underlying112
  a45 := Try.isAgg112
  z45 := Try.sizeOf112
  v45 := Try.zeroValue112
  t46 := Try.underlying113
  a46 := Try.isAgg113
  z46 := Try.sizeOf113
  v46 := Try.zeroValue113
  t50 := Try.underlying101
  a50 := Try.isAgg101
  z50 := Try.sizeOf101
  v50 := Try.zeroValue101
  t53 := Try.underlying119
  a53 := Try.isAgg119
  z53 := Try.sizeOf119
  v53 := Try.zeroValue119
  t55 := Try.underlying121
  a55 := Try.isAgg121
  z55 := Try.sizeOf121
  v55 := Try.zeroValue121
  t66 := Try.underlying122
  a66 := Try.isAgg122
  z66 := Try.sizeOf122
  v66 := Try.zeroValue122
  t70 := Try.underlying126
  a70 := Try.isAgg126
  z70 := Try.sizeOf126
  v70 := Try.zeroValue126
  t76 := Try.underlying128
  a76 := Try.isAgg128
  z76 := Try.sizeOf128
  v76 := Try.zeroValue128
  t77 := Try.underlying129
  a77 := Try.isAgg129
  z77 := Try.sizeOf129
  v77 := Try.zeroValue129 }
end Go.Proofs
namespace VeT
section
open Go Go.Proofs Go.RowKit Go.Lib
set_option maxHeartbeats 2000000 in
set_option maxRecDepth 100000 in
theorem mark30_walk (b n c : Nat) (A : Option Addr) (hA : 0 < n → A = some ⟨b, 0, none⟩) (hnc : n ≤ c) (hn : n ≤ 9223372036854775807) (Inv : Nat → Int → World → Prop) (k : Int) (w : World) (h0 : Inv 0 k w)
    (step : ∀ i k' wr, i < n → Inv i k' wr → ∃ u, wr.cell? ⟨b, i, none⟩ = some u ∧ Calls Try.prog 47 #[u, .int .i64 k'] wr fun e w' => ∃ k2, e = .returned (.int .i64 k2) ∧ Inv (i + 1) k2 w') :
    Calls Try.prog 30 #[.slice A n c, .int .i64 k] w fun e w' => ∃ k2, e = .returned (.int .i64 k2) ∧ Inv n k2 w' := by
  go_enter Try.func30, Try.ntmps30
  go_wp2
  go_loopw [1, 5] (fun kv iv wr => ∃ i : Nat, ∃ k' : Int, i ≤ n ∧ iv = .int .i64 i ∧ kv = .int .i64 k' ∧ Inv i k' wr) (fun _ iv _ => n - (RowKit.intOf iv).toNat)
  case atStart => exact ⟨0, k, Nat.zero_le _, rfl, rfl, h0⟩
  case round =>
    obtain ⟨i, k', hi, rfl, rfl, hInv⟩ := hrel
    by_cases hlt : i < n
    · obtain rfl := hA (by omega)
      obtain ⟨u, hu, hcall⟩ := step i k' _ hlt hInv
      go_wp2_with (go_at_call 47; refine hcall.mono ?_; rintro e w' ⟨k2, rfl, hI2⟩)
      go_roundw
      case rel => exact ⟨i + 1, k2, by omega, by simp, rfl, hI2⟩
      case measure => simp [RowKit.intOf]; omega
    · obtain rfl : i = n := by omega
      go_wp2
      go_ret
      exact ⟨k', rfl, hInv⟩
open Ve in
theorem mark30_contract {R : Run} (hR : ∀ args dv, R.r 47 args = some dv → Contract Try.prog ⟨[(false, 1), (false, 1)], [.io true, .imm], oM, [(false, 1)], [], []⟩ 47 args dv) {args : List Dv} {dv : Dv} (h : pMarkSS 47 R args = some dv) :
    Contract Try.prog ⟨[(false, 1), (false, 1)], [.io true, .imm], .cons tI (.cons (.sl tL) .nil), [(false, 1)], [], []⟩ 30 args dv :=
  mark_contract mark30_walk hR h

open Ve in
theorem sortf66_contract {R : Run} (hR : ∀ args dv, R.r 60 args = some dv → Contract Try.prog ⟨[(false, 1), (false, 1)], [], .cons tI .nil, [(false, 1)], [], []⟩ 60 args dv) {args : List Dv} {dv : Dv} (h : pSortF 60 R args = some dv) :
    Contract Try.prog ⟨[(false, 1), (false, 1)], [.io true, .imm], .cons tLL .nil, [], [], []⟩ 66 args dv :=
  sortF_contract (fun enc h1c cf hO blk cap d w a b c e => Any.slices_SortFunc Try.sortf66 enc h1c cf hO 60 #[] blk 0 cap d w (enters_of Try.func60 (by kernel_rfl) rfl) a b c e)
    (fun A cap fv w => (AnyF.slices_SortFunc_none { Try.sortf66 with } A cap fv w).mono fun e w' ⟨h, hw⟩ => ⟨h, by rw [hw], by rw [hw]; exact Kin.refl _⟩) hR h

set_option maxHeartbeats 4000000 in
set_option maxRecDepth 100000 in
theorem compf67_walk (b n c : Nat) (hn2 : 2 ≤ n) (hnc : n ≤ c) (hn : n ≤ 4611686018427387904) (Inv : Nat → World → Prop) (w : World) (h0 : Inv 1 w) (hd : ∀ k w', Inv k w' → Inv k w'.drew)
    (step : ∀ k w', 1 ≤ k → k < n → Inv k w' → ∃ u v, w'.cell? ⟨b, k, none⟩ = some u ∧ w'.cell? ⟨b, k - 1, none⟩ = some v ∧ Calls Try.prog 68 #[u, v] w' fun e w'' => e = .returned (.bool false) ∧ Inv (k + 1) w'') :
    Calls Try.prog 67 #[.slice (some ⟨b, 0, none⟩) n c, .func (.func 68) #[] #[]] w fun e w' => e = .returned (.slice (some ⟨b, 0, none⟩) n c) ∧ Inv n w' := by
  have h1 : ¬ ((n : Int) < 2) := by omega
  go_enter Try.func67, Try.ntmps67
  go_wp2
  go_loopw [5] (fun kv wr => ∃ k : Nat, 1 ≤ k ∧ k ≤ n ∧ kv = .int .i64 k ∧ Inv k wr) (fun kv _ => n - (RowKit.intOf kv).toNat)
  case atStart => exact ⟨1, Nat.le_refl _, by omega, rfl, h0⟩
  case round =>
    obtain ⟨k, hk1, hkn, rfl, hInv⟩ := hrel
    by_cases hlt : k < n
    · have hI2 := hd _ _ hInv
      obtain ⟨u, v, hu, hv, hcall⟩ := step k _ hk1 hlt hI2
      go_wp2
      have hw : IntKind.i64.wrap ((k : Int) - 1) = ((k - 1 : Nat) : Int) := by first | go_num | (simp [IntKind.wrap, IntKind.bits]; omega)
      go_region_with (go_at_call 68; refine (hcall).mono ?_; rintro e w' ⟨rfl, hI3⟩)
      all_goals (go_wp2; go_roundw)
      all_goals first
        | exact ⟨k + 1, by omega, by omega, by simp, hI3⟩
        | (simp [RowKit.intOf]; omega)
    · obtain rfl : k = n := by omega
      go_wp2
      go_ret
      exact ⟨rfl, hInv⟩
theorem compf67_short (A : Option Addr) (n c : Nat) (hn2 : n < 2) (fv : Value) (w : World) :
    Calls Try.prog 67 #[.slice A n c, fv] w fun e w' => e = .returned (.slice A n c) ∧ w' = w := by
  have h1 : (n : Int) < 2 := by omega
  go_enter Try.func67, Try.ntmps67
  go_wp2
  go_ret
  exact ⟨rfl, rfl⟩
open Ve in
theorem compf67_contract {R : Run} (hR : ∀ args dv, R.r 68 args = some dv → Contract Try.prog ⟨[(false, 1), (false, 1)], [], .cons .bool .nil, [(false, 1)], [], []⟩ 68 args dv) {args : List Dv} {dv : Dv} (h : pCompF 68 R args = some dv) :
    Contract Try.prog ⟨[(false, 1), (false, 1)], [.take true, .imm], .cons tLL .nil, [(false, 1)], [.deep], []⟩ 67 args dv :=
  compF_contract compf67_walk compf67_short hR h

set_option maxHeartbeats 2000000 in
set_option maxRecDepth 100000 in
theorem grow103_room (base : Option Addr) (l c n : Nat) (w : World) (hlc : l ≤ c) (hc63 : c ≤ 9223372036854775807) (hn63 : n ≤ 9223372036854775807) (hroom : l + n ≤ c) :
    Calls Try.prog 103 #[.slice base l c, .int .i64 n] w fun e w' => e = .returned (.slice base l c) ∧ w' = w := by
  have h1 : ¬ ((n : Int) < 0) := by omega
  have h2 : wrap64 ((c : Int) - (l : Int)) = (c : Int) - (l : Int) := by unfold wrap64; omega
  have h3 : wrap64 ((n : Int) - ((c : Int) - (l : Int))) = (n : Int) - ((c : Int) - (l : Int)) := by unfold wrap64; omega
  have h4 : ¬ ((n : Int) - ((c : Int) - (l : Int)) > 0) := by omega
  go_enter Try.func103, Try.ntmps103
  go_wp2
  go_ret
  exact ⟨rfl, rfl⟩

set_option maxHeartbeats 4000000 in
set_option maxRecDepth 100000 in
theorem grow103_grow (i0 : TypeInfo) (z : Value) (hi0 : Try.prog.info? 2 = some i0) (hz0 : i0.zero = some z) (hs0 : 0 < i0.size)
    (base : Option Addr) (l c n : Nat) (cs : List Value) (w : World) (hlc : l ≤ c) (hroom : c < l + n) (hbig : (l + n) * i0.bytes ≤ 140737488355328) (h63 : l + n ≤ 4611686018427387904)
    (hcl : cs.length = c * i0.size) (hnil : base = none → c = 0) (hcs : ∀ a, base = some a → ∀ (j : Nat) v, cs[j]? = some v → w.cell? (a.add j) = some v) :
    Calls Try.prog 103 #[.slice base l c, .int .i64 n] w fun e w' =>
      e = .returned (.slice (some ⟨w.heap.size, 0, none⟩) l (grownCap w (l + n) c 2)) ∧
      w' = w.drew.alloc (.cells (cs.toArray ++ Builtin.zeroCells z.cells (l + n - c) ++ Builtin.zeroCells z.cells (grownCap w (l + n) c 2 - (l + n))) 2) := by
  have h1 : ¬ ((n : Int) < 0) := by omega
  have h2 : wrap64 ((c : Int) - (l : Int)) = (c : Int) - (l : Int) := by unfold wrap64; omega
  have h3 : wrap64 ((n : Int) - ((c : Int) - (l : Int))) = (n : Int) - ((c : Int) - (l : Int)) := by unfold wrap64; omega
  have h4 : (n : Int) - ((c : Int) - (l : Int)) > 0 := by omega
  have z25 : ∀ w, (Go.sizeOf 2).run Try.prog w = .ok i0.size w := fun w => by simp [Go.sizeOf, typeInfo, hi0]
  have hck : c + (l + n - c) = l + n := by omega
  have hold : (Builtin.firstCells i0.size c (.slice base c c)).run Try.prog w.drew = .ok cs.toArray w.drew := by
    cases base with
    | none =>
      have h0 := hnil rfl
      subst h0
      have hc0 : cs = [] := List.length_eq_zero_iff.1 (by simpa using hcl)
      rw [hc0]
      exact run_firstCells_none w.drew i0.size 0 0 0
    | some a => exact run_firstCells_some w.drew i0.size c a c c cs hcl (fun j v hj => hcs a rfl j v hj)
  have hrz : ∀ ty, (Builtin.append_ #[36, 3] ty #[.slice base c c, .int .i64 ((n : Int) - ((c : Int) - (l : Int)))]).run Try.prog w =
      .ok (.slice (some ⟨w.heap.size, 0, none⟩) (l + n) (grownCap w (l + n) c 2)) (w.drew.alloc (.cells (cs.toArray ++ Builtin.zeroCells z.cells (l + n - c) ++ Builtin.zeroCells z.cells (grownCap w (l + n) c 2 - (l + n))) 2)) := fun ty => by
    have h := Lib.run_append_grow_zeros w 36 3 ty 2 i0 z .i64 .i64 Try.underlying36 Try.underlying3 hi0 hz0 base c c cs hold (l + n - c) (by omega) hs0 (by omega) (by omega)
      (by have : (l + n - c) * i0.bytes ≤ (l + n) * i0.bytes := Nat.mul_le_mul_right _ (by omega)
          omega)
      (by rw [hck]; exact growslice_fits hroom hbig)
    rw [hck] at h
    rw [show (n : Int) - ((c : Int) - (l : Int)) = ((l + n - c : Nat) : Int) by omega]
    exact h
  have hGn : l + n ≤ grownCap w (l + n) c 2 := grownCap_ge w _ _ _
  obtain ⟨G, hG⟩ : ∃ G, G = grownCap w (l + n) c 2 := ⟨_, rfl⟩
  rw [← hG] at hrz hGn ⊢
  have hG63 : G ≤ 9223372036854775807 := by
    have := grownCap_le_maxLen w (l + n) c 2 (by unfold maxLen; omega)
    rw [← hG] at this
    unfold maxLen at this
    omega
  clear hold hck hG hcs hcl
  go_enter Try.func103, Try.ntmps103
  cases base with
  | none =>
    have h0 := hnil rfl
    subst h0
    obtain rfl : l = 0 := by omega
    go_wp2_with (at_builtin; refine Lib.wpList_append_run _ rfl _ _ _ _ rfl _ _ rfl rfl _ _ (hrz _) ?_)
    all_goals (go_ret; exact ⟨rfl, rfl⟩)
  | some a =>
    obtain ⟨ab, ao, asp⟩ := a
    go_wp2_with (at_builtin; refine Lib.wpList_append_run _ rfl _ _ _ _ rfl _ _ rfl rfl _ _ (hrz _) ?_)
    all_goals (go_ret; exact ⟨rfl, rfl⟩)
theorem grow103_info : (Try.prog.info? 2).any (fun i => i.size == Ve.Ty.size yI && i.zero.any (fun z => z.cells.size == Ve.Ty.size yI) && decide (i.bytes ≤ 64 * Ve.Ty.size yI) && decide (0 < i.bytes) && decide (0 < Ve.Ty.size yI)) = true := by kernel_rfl
open Ve in
theorem grow103_contract (R : Run) {args : List Dv} {dv : Dv} (h : pGrow yI R args = some dv) :
    Contract Try.prog ⟨[(false, 1), (false, 1)], [.take true, .imm], .cons yL .nil, [(false, 1)], [.deep], []⟩ 103 args dv := by
  have hi := grow103_info
  cases hi0 : Try.prog.info? 2 with
  | none => rw [hi0] at hi; cases hi
  | some i0 =>
    rw [hi0] at hi
    simp only [Option.any_some, Bool.and_eq_true, decide_eq_true_eq, beq_iff_eq] at hi
    obtain ⟨⟨⟨⟨h1, h2⟩, h3⟩, h4⟩, h5⟩ := hi
    cases hz : i0.zero with
    | none => rw [hz] at h2; cases h2
    | some z =>
      rw [hz] at h2
      exact grow_contract h1 (by simpa using h2) h5 h3 h4 grow103_room (fun base l c n cs w a1 a2 a3 a4 a5 a6 a7 => grow103_grow i0 z hi0 hz (by rw [h1]; exact h5) base l c n cs w a1 a2 a3 a4 a5 a6 a7) R h

end
section
open Go Ve
theorem primL_eq : primL = (List.range 139).map fun i => bif Nat.beq i 30 then some (pMarkSS n_Z32) else bif Nat.beq i 66 then some (pSortF n_Z11) else bif Nat.beq i 67 then some (pCompF n_Z52) else bif Nat.beq i 103 then some (pGrow yI) else none := by kernel_rfl
theorem prims_ok : ∀ f p, E.prim f = some p → ∀ r, RunOk E (mkR r) → ∀ args dv sg, E.sig f = some sg → p (mkR r) args = some dv → Contract E.P sg f args dv := by
  intro f p hp r hr args dv sg hsg h
  have hp : primL.getD f none = some p := hp
  rw [primL_eq, List.getD_eq_getElem?_getD, List.getElem?_map] at hp
  by_cases hf : f < 139
  · rw [List.getElem?_range hf] at hp
    simp only [Option.map_some, Option.getD_some] at hp
    by_cases h30 : f = 30
    · subst h30
      obtain rfl : (pMarkSS n_Z32) = p := Option.some.inj hp
      obtain rfl : sg_Z33 = sg := Option.some.inj (sig_laws_markInt64SS_eq.symm.trans hsg)
      exact mark30_contract (fun args dv h => hr _ args dv _ sig_laws_markInt64S_eq h) h
    rw [show Nat.beq f 30 = false from Bool.eq_false_iff.2 fun h => h30 (Nat.eq_of_beq_eq_true h), cond_false] at hp
    by_cases h66 : f = 66
    · subst h66
      obtain rfl : (pSortF n_Z11) = p := Option.some.inj hp
      obtain rfl : sg_Z60 = sg := Option.some.inj (sig_slices_SortFunc_SSint64_Sint64_eq.symm.trans hsg)
      exact sortf66_contract (fun args dv h => hr _ args dv _ sig_impl_compareSimplices_eq h) h
    rw [show Nat.beq f 66 = false from Bool.eq_false_iff.2 fun h => h66 (Nat.eq_of_beq_eq_true h), cond_false] at hp
    by_cases h67 : f = 67
    · subst h67
      obtain rfl : (pCompF n_Z52) = p := Option.some.inj hp
      obtain rfl : sg_Z43 = sg := Option.some.inj (sig_slices_CompactFunc_SSint64_Sint64_eq.symm.trans hsg)
      exact compf67_contract (fun args dv h => hr _ args dv _ sig_slices_Equal_Sint64_int64_eq h) h
    rw [show Nat.beq f 67 = false from Bool.eq_false_iff.2 fun h => h67 (Nat.eq_of_beq_eq_true h), cond_false] at hp
    by_cases h103 : f = 103
    · subst h103
      obtain rfl : (pGrow yI) = p := Option.some.inj hp
      obtain rfl : sg_Z53 = sg := Option.some.inj (sig_slices_Grow_Sint64_int64_eq.symm.trans hsg)
      exact grow103_contract _ h
    rw [show Nat.beq f 103 = false from Bool.eq_false_iff.2 fun h => h103 (Nat.eq_of_beq_eq_true h), cond_false] at hp
    cases hp
  · rw [List.getElem?_eq_none (by simpa using hf)] at hp
    cases hp
end
end VeT

open Go Go.Proofs Ve
set_option linter.unusedVariables false
set_option linter.unusedSimpArgs false
namespace VeT

theorem szInt64S_ret (x : (List Int)) (l : Int) (hx : Wf yL x) (h0 : 0 ≤ l) (h1 : l ≤ 1048576) :
    ∃ r : Int, Ret E n_Z35 [⟨yL, x⟩, ⟨.int .i64, l⟩] ⟨o_Z35, (r, ())⟩ ∧ (0 ≤ r → r ≤ l ∧ Sm yL x) := by
  have hx1 : x.length ≤ maxLen := hx.1
  rw [maxLen_eq] at hx1
  have hw : w64 (l - x.length) = l - x.length := w64_small (by omega) (by omega)
  by_cases hc : l - (x.length : Int) < 0
  · refine ⟨-1, Evt.succ (Evt.of fun n => ?_), fun h => by omega⟩
    rw [run_Z35, Z35.ev, hw, decide_eq_true hc]; rfl
  · refine ⟨l - x.length, Evt.succ (Evt.of fun n => ?_), fun h => ⟨by omega, by omega, fun x _ => trivial⟩⟩
    rw [run_Z35, Z35.ev, hw, decide_eq_false hc]; rfl

theorem toInt64S_ret (x : (List Int)) (hx : Sm yL x) : Ret E n_Z38 [⟨yL, x⟩] ⟨o_Z38, (x, ())⟩ := by
  have hx1 : x.length ≤ 1048576 := hx.1
  have hl := fill_loop (a := x) (L := fun m n i o => Z38.l0 (mkR (run E m)) m n x i o) (z := List.replicate (Int.toNat (List.length x : Int)) (0 : Int)) (r := some ⟨o_Z38, (x, ())⟩) (by simp) (fun k o hk ho => by
      refine Evt.of fun m n => ?_
      show Z38.l0 _ _ _ _ _ _ = _
      rw [Z38.l0_succ _ mk_ok, decide_eq_true (show (k : Int) < x.length by omega), cond_true, idx_lt hk]
      simp only [Option.bind_some]
      rw [chk_true (by simp; omega), w64_succ (by omega), Int.toNat_natCast]) (Evt.of fun m n => by
      show Z38.l0 _ _ _ _ _ _ = _
      rw [Z38.l0_succ _ mk_ok, decide_eq_false (by omega), cond_false])
  refine Evt.succ (hl.mono fun n h => ?_)
  rw [run_Z38, Z38.ev, chk_true (by simp; omega)]
  exact h

theorem eqInt64S_ret (x y : (List Int)) (hx : Sm yL x) : ∃ b : Bool, Ret E n_Z26 [⟨yL, x⟩, ⟨yL, y⟩] ⟨o_Z26, (b, ())⟩ ∧ (b = true ↔ x = y) := by
  have hx1 : x.length ≤ 1048576 := hx.1
  by_cases hl : x.length = y.length
  · have hd : ((x.length : Int) != (y.length : Int)) = false := by simp [hl]
    obtain ⟨h1, h2⟩ := same_loop (a := x) (b := y) (L := fun m n i (_ : Unit) => Z26.l0 (mkR (run E m)) m n x y i) (fun u v => u = v) (rt := some ⟨o_Z26, (true, ())⟩) (rf := some ⟨o_Z26, (false, ())⟩) hl.symm
      (fun k h h' hne => Evt.of fun m n => by
      show Z26.l0 _ _ _ _ _ _ = _
      rw [Z26.l0_succ _ mk_ok, decide_eq_true (show (k : Int) < x.length by omega), cond_true, idx_lt h, idx_lt h']
      have : (x[k] != y[k]) = true := by simpa using hne
      simp only [Option.bind_some, this, cond_true])
      (fun k h h' he => Evt.of fun m n => by
      show Z26.l0 _ _ _ _ _ _ = _
      rw [Z26.l0_succ _ mk_ok, decide_eq_true (show (k : Int) < x.length by omega), cond_true, idx_lt h, idx_lt h']
      have : (x[k] != y[k]) = false := by simpa using he
      simp only [Option.bind_some, this, cond_false]
      rw [w64_succ (by omega)])
      (Evt.of fun m n => by
      show Z26.l0 _ _ _ _ _ _ = _
      rw [Z26.l0_succ _ mk_ok, decide_eq_false (by omega), cond_false])
    by_cases he : x = y
    · refine ⟨true, Evt.succ ((h1 (by subst he; intros; rfl)).mono fun n h => ?_), by simp [he]⟩
      rw [run_Z26, Z26.ev, hd, cond_false]
      exact h
    · refine ⟨false, Evt.succ ((h2 fun hh => he (List.ext_getElem hl hh)).mono fun n h => ?_), by simp [he]⟩
      rw [run_Z26, Z26.ev, hd, cond_false]
      exact h
  · have hd : ((x.length : Int) != (y.length : Int)) = true := by simp; omega
    refine ⟨false, Evt.succ (Evt.of fun n => ?_), ⟨fun h => (nomatch h), fun h => absurd (congrArg List.length h) hl⟩⟩
    rw [run_Z26, Z26.ev, hd, cond_true]

theorem szInt64SS_ret (x : vK) (l : Int) (hx : Wf yK x) (h0 : 0 ≤ l) (h1 : l ≤ 1048576) :
    ∃ r : Int, Ret E n_Z36 [⟨yK, x⟩, ⟨.int .i64, l⟩] ⟨o_Z36, (r, ())⟩ ∧ (0 ≤ r → r ≤ l ∧ Sm yK x) := by
  have hx1 : x.length ≤ maxLen := hx.1
  rw [maxLen_eq] at hx1
  have hw : w64 (l - x.length) = l - x.length := w64_small (by omega) (by omega)
  by_cases hc : l - (x.length : Int) < 0
  · refine ⟨-1, Evt.succ (Evt.of fun n => ?_), fun h => by omega⟩
    rw [run_Z36, Z36.ev, hw, decide_eq_true hc]; rfl
  · obtain ⟨r, hr, hs⟩ := sz_loop (xs := x) (L := fun m n i left => Z36.l0 (mkR (run E m)) m n x left i) (ret := fun r => some ⟨o_Z36, (r, ())⟩) (fun x => Sm yL x) (fun k left hk hl0 hl1 => by
      obtain ⟨r, hr, hs⟩ := szInt64S_ret x[k] left (hx.2 _ (List.getElem_mem hk)) hl0 hl1
      refine ⟨r, hs, hr.mono fun m h n => ?_⟩
      show Z36.l0 _ _ _ _ _ _ = _
      rw [Z36.l0_succ _ mk_ok, decide_eq_true (show (k : Int) < x.length by omega), cond_true, idx_lt hk]
      simp only [Option.bind_some, callT_of h]
      rw [w64_succ (by omega)]) (fun left => Evt.of fun m n => by
      show Z36.l0 _ _ _ _ _ _ = _
      rw [Z36.l0_succ _ mk_ok, decide_eq_false (by omega), cond_false]) (l - x.length) (by omega) (by omega)
    refine ⟨r, Evt.succ (hr.mono fun n h => ?_), fun h => ⟨by have := (hs h).1; omega, by omega, (hs h).2⟩⟩
    rw [run_Z36, Z36.ev, hw, decide_eq_false hc]
    exact h

theorem toInt64SS_ret (x : vK) (hx : Sm yK x) : Ret E n_Z39 [⟨yK, x⟩] ⟨o_Z39, (x, ())⟩ := by
  have hx1 : x.length ≤ 1048576 := hx.1
  have hl := fill_loop (a := x) (L := fun m n i o => Z39.l0 (mkR (run E m)) m n x i o) (z := List.replicate (Int.toNat (List.length x : Int)) ([] : List Int)) (r := some ⟨o_Z39, (x, ())⟩) (by simp) (fun k o hk ho => by
      have hr := toInt64S_ret x[k] (hx.2 _ (List.getElem_mem hk))
      refine hr.mono fun m h n => ?_
      show Z39.l0 _ _ _ _ _ _ = _
      rw [Z39.l0_succ _ mk_ok, decide_eq_true (show (k : Int) < x.length by omega), cond_true, idx_lt hk]
      simp only [Option.bind_some, callT_of h]
      rw [chk_true (by simp; omega), w64_succ (by omega), Int.toNat_natCast]) (Evt.of fun m n => by
      show Z39.l0 _ _ _ _ _ _ = _
      rw [Z39.l0_succ _ mk_ok, decide_eq_false (by omega), cond_false])
  refine Evt.succ (hl.mono fun n h => ?_)
  rw [run_Z39, Z39.ev, chk_true (by simp; omega)]
  exact h

theorem eqInt64SS_ret (x y : vK) (hx : Sm yK x) : ∃ b : Bool, Ret E n_Z27 [⟨yK, x⟩, ⟨yK, y⟩] ⟨o_Z27, (b, ())⟩ ∧ (b = true ↔ x = y) := by
  have hx1 : x.length ≤ 1048576 := hx.1
  by_cases hl : x.length = y.length
  · have hd : ((x.length : Int) != (y.length : Int)) = false := by simp [hl]
    obtain ⟨h1, h2⟩ := same_loop (a := x) (b := y) (L := fun m n i (_ : Unit) => Z27.l0 (mkR (run E m)) m n x y i) (fun u v => u = v) (rt := some ⟨o_Z27, (true, ())⟩) (rf := some ⟨o_Z27, (false, ())⟩) hl.symm
      (fun k h h' hne => by
      obtain ⟨b, hb, hbe⟩ := eqInt64S_ret x[k] y[k] (hx.2 _ (List.getElem_mem h))
      have hb0 : b = false := by cases b <;> simp_all
      subst hb0
      refine hb.mono fun m hm n => ?_
      show Z27.l0 _ _ _ _ _ _ = _
      rw [Z27.l0_succ _ mk_ok, decide_eq_true (show (k : Int) < x.length by omega), cond_true, idx_lt h, idx_lt h']
      simp only [Option.bind_some, callT_of hm, Bool.not_false, Bool.not_true, cond_true, cond_false])
      (fun k h h' he => by
      obtain ⟨b, hb, hbe⟩ := eqInt64S_ret x[k] y[k] (hx.2 _ (List.getElem_mem h))
      have hb0 : b = true := by cases b <;> simp_all
      subst hb0
      refine hb.mono fun m hm n => ?_
      show Z27.l0 _ _ _ _ _ _ = _
      rw [Z27.l0_succ _ mk_ok, decide_eq_true (show (k : Int) < x.length by omega), cond_true, idx_lt h, idx_lt h']
      simp only [Option.bind_some, callT_of hm, Bool.not_false, Bool.not_true, cond_true, cond_false]
      rw [w64_succ (by omega)])
      (Evt.of fun m n => by
      show Z27.l0 _ _ _ _ _ _ = _
      rw [Z27.l0_succ _ mk_ok, decide_eq_false (by omega), cond_false])
    by_cases he : x = y
    · refine ⟨true, Evt.succ ((h1 (by subst he; intros; rfl)).mono fun n h => ?_), by simp [he]⟩
      rw [run_Z27, Z27.ev, hd, cond_false]
      exact h
    · refine ⟨false, Evt.succ ((h2 fun hh => he (List.ext_getElem hl hh)).mono fun n h => ?_), by simp [he]⟩
      rw [run_Z27, Z27.ev, hd, cond_false]
      exact h
  · have hd : ((x.length : Int) != (y.length : Int)) = true := by simp; omega
    refine ⟨false, Evt.succ (Evt.of fun n => ?_), ⟨fun h => (nomatch h), fun h => absurd (congrArg List.length h) hl⟩⟩
    rw [run_Z27, Z27.ev, hd, cond_true]

theorem szComplex_ret (x : (vK × Unit)) (l : Int) (hx : Wf (.st (.cons yK .nil)) x) (h0 : 0 ≤ l) (h1 : l ≤ 1048576) :
    ∃ r : Int, Ret E n_Z34 [⟨yK, x.1⟩, ⟨.int .i64, l⟩] ⟨o_Z34, (r, ())⟩ ∧ (0 ≤ r → r ≤ l ∧ Sm (.st (.cons yK .nil)) x) := by
  obtain ⟨r0, hr0, hs0⟩ := szInt64SS_ret x.1 l hx.1 (by omega) (by omega)
  by_cases hc0 : r0 < 0
  · refine ⟨-1, Evt.succ (hr0.mono fun n e0 => ?_), fun h => by omega⟩
    rw [run_Z34, Z34.ev]
    simp only [Option.bind_some, cond_true, cond_false, callT_of e0, decide_eq_true hc0]
  have hb0 := hs0 (by omega)
  refine ⟨r0, Evt.succ (hr0.mono fun n e0 => ?_), fun h => ⟨by omega, ?_⟩⟩
  · skip
    rw [run_Z34, Z34.ev]
    simp only [Option.bind_some, cond_true, cond_false, callT_of e0, decide_eq_false hc0]
  · exact ⟨hb0.2, trivial⟩

theorem toComplex_ret (x : (vK × Unit)) (hx : Sm (.st (.cons yK .nil)) x) : Ret E n_Z37 [⟨yK, x.1⟩] ⟨o_Z37, x⟩ := by
  have hr0 := toInt64SS_ret x.1 hx.1
  refine Evt.succ (hr0.mono fun n e0 => ?_)
  rw [run_Z37, Z37.ev]
  simp only [Option.bind_some, callT_of e0]

theorem eqComplex_ret (x y : (vK × Unit)) (hx : Sm (.st (.cons yK .nil)) x) : ∃ b : Bool, Ret E n_Z25 [⟨yK, x.1⟩, ⟨yK, y.1⟩] ⟨o_Z25, (b, ())⟩ ∧ (b = true ↔ x = y) := by
  obtain ⟨b0, hr0, hb0⟩ := eqInt64SS_ret x.1 y.1 hx.1
  refine ⟨b0, Evt.succ (hr0.mono fun n e0 => ?_), ?_⟩
  · skip
    rw [run_Z25, Z25.ev]
    simp only [Option.bind_some, callT_of e0]
    clear hx hr0 e0 hb0
    cases b0 <;> rfl
  · obtain ⟨x0, _⟩ := x
    obtain ⟨y0, _⟩ := y
    simp only [Bool.and_eq_true, decide_eq_true_eq, hb0, Prod.mk.injEq, and_true]
    try simp only [and_assoc]

end VeT

open Go Go.Proofs Ve
set_option linter.unusedVariables false
set_option linter.unusedSimpArgs false
namespace VeT

theorem IndexFunc_SSint64_Sint64_impl_ValidComplex_1_ret (s : List (List Int)) (c : ((vK × Unit) × (Int × Unit) × Unit)) (p : (List Int) → Bool) (hs : s.length ≤ 1048576) (hp : ∀ x ∈ s, Ret E n_Z7 [⟨yL, x⟩, ⟨(.ptr (.cons yK .nil)), c.1⟩, ⟨(.ptr (.cons yI .nil)), c.2.1⟩] ⟨o_Z7, (p x, ())⟩) :
    Ret E n_Z54 [⟨yK, s⟩, ⟨(.fn n_Z7 (.cons (.ptr (.cons yK .nil)) (.cons (.ptr (.cons yI .nil)) .nil))), c⟩] ⟨o_Z54, (idxf p s, ())⟩ := by
  obtain ⟨o, h1, h2, h3⟩ := find_loop 1 (L := fun φ n k => Z55.l0 (mkR (run E (φ 0))) (φ 0) n s c (s.length : Int) k) (len := s.length) (fun k => ∃ h : k < s.length, p s[k] = true) (fun o => some ⟨o_Z54, (o2i o, ())⟩) (fun _ _ _ _ => rfl) (fun k hk hP => by
      obtain ⟨_, hP⟩ := hP
      simp only [Z55.l0_succ _ mk_ok]
      refine ev_t (decide_eq_true (by omega)) (ev_bind (idx_lt hk) (ev_call (hp _ (List.getElem_mem hk)) (ev_t hP ev_rfl)))) (fun k q hk hP ih => by
      simp only [Z55.l0_succ _ mk_ok]
      refine ev_t (decide_eq_true (by omega)) (ev_bind (idx_lt hk) (ev_call (hp _ (List.getElem_mem hk)) (ev_f (Bool.eq_false_iff.2 fun h => hP ⟨hk, h⟩) ?_)))
      rw [w64_succ (by omega)]; exact ih) (by
      simp only [Z55.l0_succ _ mk_ok]
      exact ev_f (decide_eq_false (by omega)) ev_rfl)
  rw [idxf_of h1 h2] at h3
  refine ret_of ?_
  simp only [run_Z54, Z55.ev]
  exact Ev.start (p := fun φ n => Z55.l0 (mkR (run E (φ 0))) (φ 0) n s c (s.length : Int) 0 = _) 1 h3 (fun _ _ _ h => h)

theorem IndexFunc_Sint64_int64_impl_ValidSimplex_1_ret (s : List Int) (p : Int → Bool) (hs : s.length ≤ 1048576) (hp : ∀ x ∈ s, Ret E n_Z9 [⟨yI, x⟩] ⟨o_Z9, (p x, ())⟩) :
    Ret E n_Z56 [⟨yL, s⟩, ⟨(.fn n_Z9 .nil), ()⟩] ⟨o_Z56, (idxf p s, ())⟩ := by
  obtain ⟨o, h1, h2, h3⟩ := find_loop 1 (L := fun φ n k => Z57.l0 (mkR (run E (φ 0))) (φ 0) n s (s.length : Int) k) (len := s.length) (fun k => ∃ h : k < s.length, p s[k] = true) (fun o => some ⟨o_Z56, (o2i o, ())⟩) (fun _ _ _ _ => rfl) (fun k hk hP => by
      obtain ⟨_, hP⟩ := hP
      simp only [Z57.l0_succ _ mk_ok]
      refine ev_t (decide_eq_true (by omega)) (ev_bind (idx_lt hk) (ev_call (hp _ (List.getElem_mem hk)) (ev_t hP ev_rfl)))) (fun k q hk hP ih => by
      simp only [Z57.l0_succ _ mk_ok]
      refine ev_t (decide_eq_true (by omega)) (ev_bind (idx_lt hk) (ev_call (hp _ (List.getElem_mem hk)) (ev_f (Bool.eq_false_iff.2 fun h => hP ⟨hk, h⟩) ?_)))
      rw [w64_succ (by omega)]; exact ih) (by
      simp only [Z57.l0_succ _ mk_ok]
      exact ev_f (decide_eq_false (by omega)) ev_rfl)
  rw [idxf_of h1 h2] at h3
  refine ret_of ?_
  simp only [run_Z56, Z57.ev]
  exact Ev.start (p := fun φ n => Z57.l0 (mkR (run E (φ 0))) (φ 0) n s (s.length : Int) 0 = _) 1 h3 (fun _ _ _ h => h)

theorem IndexFunc_Sint64_int64_impl_isFace_1_ret (s : List Int) (c : (((List Int) × Unit) × Unit)) (p : Int → Bool) (hs : s.length ≤ 1048576) (hp : ∀ x ∈ s, Ret E n_Z18 [⟨yI, x⟩, ⟨(.ptr (.cons yL .nil)), c.1⟩] ⟨o_Z18, (p x, ())⟩) :
    Ret E n_Z56 [⟨yL, s⟩, ⟨(.fn n_Z18 (.cons (.ptr (.cons yL .nil)) .nil)), c⟩] ⟨o_Z56, (idxf p s, ())⟩ := by
  obtain ⟨o, h1, h2, h3⟩ := find_loop 1 (L := fun φ n k => Z58.l0 (mkR (run E (φ 0))) (φ 0) n s c (s.length : Int) k) (len := s.length) (fun k => ∃ h : k < s.length, p s[k] = true) (fun o => some ⟨o_Z56, (o2i o, ())⟩) (fun _ _ _ _ => rfl) (fun k hk hP => by
      obtain ⟨_, hP⟩ := hP
      simp only [Z58.l0_succ _ mk_ok]
      refine ev_t (decide_eq_true (by omega)) (ev_bind (idx_lt hk) (ev_call (hp _ (List.getElem_mem hk)) (ev_t hP ev_rfl)))) (fun k q hk hP ih => by
      simp only [Z58.l0_succ _ mk_ok]
      refine ev_t (decide_eq_true (by omega)) (ev_bind (idx_lt hk) (ev_call (hp _ (List.getElem_mem hk)) (ev_f (Bool.eq_false_iff.2 fun h => hP ⟨hk, h⟩) ?_)))
      rw [w64_succ (by omega)]; exact ih) (by
      simp only [Z58.l0_succ _ mk_ok]
      exact ev_f (decide_eq_false (by omega)) ev_rfl)
  rw [idxf_of h1 h2] at h3
  refine ret_of ?_
  simp only [run_Z56, Z58.ev]
  exact Ev.start (p := fun φ n => Z58.l0 (mkR (run E (φ 0))) (φ 0) n s c (s.length : Int) 0 = _) 1 h3 (fun _ _ _ h => h)

theorem ContainsFunc_SSint64_Sint64_impl_ValidComplex_1_ret (s : List (List Int)) (c : ((vK × Unit) × (Int × Unit) × Unit)) (p : (List Int) → Bool) (hs : s.length ≤ 1048576) (hp : ∀ x ∈ s, Ret E n_Z7 [⟨yL, x⟩, ⟨(.ptr (.cons yK .nil)), c.1⟩, ⟨(.ptr (.cons yI .nil)), c.2.1⟩] ⟨o_Z7, (p x, ())⟩) :
    Ret E n_Z46 [⟨yK, s⟩, ⟨(.fn n_Z7 (.cons (.ptr (.cons yK .nil)) (.cons (.ptr (.cons yI .nil)) .nil))), c⟩] ⟨o_Z46, (pb (∃ x ∈ s, p x = true), ())⟩ := by
  refine ret_of ?_
  simp only [run_Z46, Z47.ev]
  refine ev_call (IndexFunc_SSint64_Sint64_impl_ValidComplex_1_ret s c p hs hp) (ev_some ?_)
  simp only [ge_iff_le, pb_dec, pb_congr idxf_nonneg]

theorem ContainsFunc_Sint64_int64_impl_ValidSimplex_1_ret (s : List Int) (p : Int → Bool) (hs : s.length ≤ 1048576) (hp : ∀ x ∈ s, Ret E n_Z9 [⟨yI, x⟩] ⟨o_Z9, (p x, ())⟩) :
    Ret E n_Z48 [⟨yL, s⟩, ⟨(.fn n_Z9 .nil), ()⟩] ⟨o_Z48, (pb (∃ x ∈ s, p x = true), ())⟩ := by
  refine ret_of ?_
  simp only [run_Z48, Z49.ev]
  refine ev_call (IndexFunc_Sint64_int64_impl_ValidSimplex_1_ret s p hs hp) (ev_some ?_)
  simp only [ge_iff_le, pb_dec, pb_congr idxf_nonneg]

theorem ContainsFunc_Sint64_int64_impl_isFace_1_ret (s : List Int) (c : (((List Int) × Unit) × Unit)) (p : Int → Bool) (hs : s.length ≤ 1048576) (hp : ∀ x ∈ s, Ret E n_Z18 [⟨yI, x⟩, ⟨(.ptr (.cons yL .nil)), c.1⟩] ⟨o_Z18, (p x, ())⟩) :
    Ret E n_Z48 [⟨yL, s⟩, ⟨(.fn n_Z18 (.cons (.ptr (.cons yL .nil)) .nil)), c⟩] ⟨o_Z48, (pb (∃ x ∈ s, p x = true), ())⟩ := by
  refine ret_of ?_
  simp only [run_Z48, Z50.ev]
  refine ev_call (IndexFunc_Sint64_int64_impl_isFace_1_ret s c p hs hp) (ev_some ?_)
  simp only [ge_iff_le, pb_dec, pb_congr idxf_nonneg]

end VeT

open Go Go.Proofs Ve
set_option linter.unusedVariables false
set_option linter.unusedSimpArgs false
namespace VeT

abbrev cM : Ty := .cons yI (.cons yI (.cons yI (.cons yL .nil)))
abbrev cC : Ty := .cons yK .nil
abbrev cS : Ty := .cons yK (.cons yI (.cons yL (.cons (.sl (.st cM)) .nil)))
abbrev Mat := Int × Int × Int × List Int × Unit
abbrev Cpx := List (List Int) × Unit
abbrev Shf := List (List Int) × Int × List Int × List Mat × Unit
abbrev Sim := List Int
abbrev dI (x : Int) : Dv := ⟨.int .i64,x⟩
abbrev dL (x : List Int) : Dv := ⟨.sl yI,x⟩
abbrev dLL (x : List (List Int)) : Dv := ⟨.sl yL,x⟩
abbrev dC (x : Cpx) : Dv := ⟨.ptr cC,x⟩
abbrev dM (x : Mat) : Dv := ⟨.ptr cM,x⟩
abbrev dS (x : Shf) : Dv := ⟨.ptr cS,x⟩
abbrev dMs (x : List Mat) : Dv := ⟨.sl (.st cM),x⟩

theorem within_ret (n lo hi : Int) : Ret E n_Z23 [dI n,dI lo,dI hi] ⟨o_Z23,(pb (lo ≤ n ∧ n ≤ hi),())⟩ := by
  refine ret_of ?_
  simp only [run_Z23,Z23.ev]
  refine ev_d (fun h => ev_some ?_) fun h => ev_some ?_
  · rw [pb_dec,pb_congr (show n ≤ hi ↔ lo ≤ n ∧ n ≤ hi by omega)]
  · rw [pb_false (by omega)]

theorem l00In_ret (n lo hi : Int) : Ret E n_Z63 [dI n,dI lo,dI hi] ⟨o_Z63,(pb (lo ≤ n ∧ n ≤ hi),())⟩ := by
  refine ret_of ?_
  simp only [run_Z63,Z63.ev]
  refine ev_d (fun h => ev_some ?_) fun h => ev_some ?_
  · rw [pb_dec,pb_congr (show n ≤ hi ↔ lo ≤ n ∧ n ≤ hi by omega)]
  · rw [pb_false (by omega)]

theorem isVertex_ret (n : Int) : Ret E n_Z20 [dI n] ⟨o_Z20,(pb (0 ≤ n ∧ n ≤ 9),())⟩ := by
  refine ret_of ?_
  simp only [run_Z20,Z20.ev]
  exact ev_call (within_ret _ _ _) ev_rfl

theorem ValidSimplex_1_ret (n : Int) : Ret E n_Z9 [dI n] ⟨o_Z9,(!pb (0 ≤ n ∧ n ≤ 9),())⟩ := by
  refine ret_of ?_
  simp only [run_Z9,Z9.ev]
  exact ev_call (isVertex_ret _) ev_rfl

/-- the list rises -/
def Rises (s : Sim) : Prop := ∀ j,1 ≤ j → j < s.length → s.getD (j - 1) 0 < s.getD j 0

theorem isRising_ret (s : Sim) (hs : Sm yL s) : Ret E n_Z19 [dL s] ⟨o_Z19,(pb (Rises s),())⟩ := by
  have hs1 : s.length ≤ 1048576 := hs.1
  refine ret_of ?_
  simp only [run_Z19,Z19.ev]
  by_cases h0 : s.length = 0
  · refine Ev.start (p := fun φ n => Z19.l0 (mkR (run E (φ 0))) (φ 0) n s 1 = _) 1 ?_ (fun _ _ _ h => h)
    refine loopR 1 (σ := Unit) (L := fun φ n _ => Z19.l0 (mkR (run E (φ 0))) (φ 0) n s 1) (fun _ _ _ _ => rfl) (fun _ => True) (fun _ => _) (fun _ => 0) (fun _ _ _ => ?_) () trivial
    simp only [Z19.l0_succ _ mk_ok]
    refine ev_f (decide_eq_false (by omega)) (ev_some ?_)
    rw [pb_true]
    intro j h1 h2; omega
  · refine Ev.start (p := fun φ n => Z19.l0 (mkR (run E (φ 0))) (φ 0) n s 1 = _) 1 ?_ (fun _ _ _ h => h)
    refine all_pb 1 (L := fun φ n k => Z19.l0 (mkR (run E (φ 0))) (φ 0) n s k) (len := s.length) 1 (by omega) (fun j => s.getD (j - 1) 0 < s.getD j 0) (fun b => some ⟨o_Z19,(b,())⟩) (fun _ _ _ _ => rfl) (fun k h1 h2 hP _ => ?_) (fun k r h1 h2 hP _ ih => ?_) (fun _ => ?_)
    · simp only [Z19.l0_succ _ mk_ok]
      refine ev_t (decide_eq_true (by omega)) ?_
      rw [w64_small (by omega) (by omega),show ((k : Int) - 1) = ((k - 1 : Nat) : Int) by omega]
      refine ev_bind (idx_lt (by omega)) (ev_bind (idx_lt h2) (ev_t (decide_eq_true ?_) ev_rfl))
      simpa [List.getD_eq_getElem?_getD,h2,show k - 1 < s.length by omega] using hP
    · simp only [Z19.l0_succ _ mk_ok]
      refine ev_t (decide_eq_true (by omega)) ?_
      rw [w64_small (by omega) (by omega),show ((k : Int) - 1) = ((k - 1 : Nat) : Int) by omega]
      refine ev_bind (idx_lt (by omega)) (ev_bind (idx_lt h2) (ev_f (decide_eq_false ?_) ?_))
      · simpa [List.getD_eq_getElem?_getD,h2,show k - 1 < s.length by omega] using hP
      · rw [w64_succ (by omega)]; exact ih
    · simp only [Z19.l0_succ _ mk_ok]
      exact ev_f (decide_eq_false (by omega)) ev_rfl

end VeT

open Go Go.Proofs Ve
set_option linter.unusedVariables false
set_option linter.unusedSimpArgs false
namespace VeT

def Vx (s : Sim) : Prop := 1 ≤ s.length ∧ s.length ≤ 4 ∧ Rises s ∧ ∀ x ∈ s,0 ≤ x ∧ x ≤ 9

theorem ValidSimplex_ret (s : Sim) (hs : Sm yL s) : Ret E n_Z8 [dL s] ⟨o_Z8,(pb (Vx s),())⟩ := by
  refine ret_of ?_
  simp only [run_Z8,Z8.ev]
  refine ev_d (fun h1 => ev_d (fun h2 => ev_call (isRising_ret s hs) (ev_b (fun h3 => ev_call (ContainsFunc_Sint64_int64_impl_ValidSimplex_1_ret s _ hs.1 fun x _ => ValidSimplex_1_ret x) (ev_some ?_)) fun h3 => ev_some ?_)) fun h2 => ev_some ?_) fun h1 => ev_some ?_
  · have h3 := pb_iff.1 h3
    have : (!pb (∃ x ∈ s,(!pb (0 ≤ x ∧ x ≤ 9)) = true)) = pb (Vx s) := eq_pb (by
      simp only [Bool.not_eq_true',pb_not]
      exact ⟨fun h => ⟨by omega,by omega,h3,fun x hx => Classical.byContradiction fun hn => h ⟨x,hx,hn⟩⟩,fun h ⟨x,hx,hn⟩ => hn (h.2.2.2 x hx)⟩)
    rw [this]
  · rw [pb_false fun h => pb_not.1 h3 h.2.2.1]
  · rw [pb_false fun h => h2 (by have := h.2.1; omega)]
  · rw [pb_false fun h => h1 (by have := h.1; omega)]

theorem l00Rises_ret (s : Sim) (lo hi : Int) (hs : Sm yL s) : Ret E n_Z65 [dL s,dI lo,dI hi] ⟨o_Z65,(pb (Rises s ∧ ∀ x ∈ s,lo ≤ x ∧ x ≤ hi),())⟩ := by
  have hs1 : s.length ≤ 1048576 := hs.1
  refine ret_of ?_
  simp only [run_Z65,Z65.ev]
  refine Ev.start (p := fun φ n => Z65.l0 (mkR (run E (φ 0))) (φ 0) n s lo hi 0 = _) 1 ?_ (fun _ _ _ h => h)
  refine (all_pb 1 (L := fun φ n k => Z65.l0 (mkR (run E (φ 0))) (φ 0) n s lo hi k) (len := s.length) 0 (by omega) (fun j => (lo ≤ s.getD j 0 ∧ s.getD j 0 ≤ hi) ∧ (1 ≤ j → s.getD (j - 1) 0 < s.getD j 0)) (fun b => some ⟨o_Z65,(b,())⟩) (fun _ _ _ _ => rfl) (fun k h1 h2 hP _ => ?_) (fun k r h1 h2 hP _ ih => ?_) (fun _ => ?_)).to ?_
  · simp only [Z65.l0_succ _ mk_ok]
    refine ev_t (decide_eq_true (by omega)) (ev_bind (idx_lt h2) (ev_call (l00In_ret _ _ _) ?_))
    have e : s.getD k 0 = s[k] := by simp [List.getD_eq_getElem?_getD,h2]
    rw [e] at hP
    refine ev_b (fun _ => ?_) (fun hin => ?_)
    · simp only [Z65.j1_eq _ mk_ok,cond_true]; (first | exact ev_rfl | exact Ev.of fun _ => trivial)
    · have hin : lo ≤ s[k] ∧ s[k] ≤ hi := pb_iff.1 (by simpa using hin)
      have hk : 1 ≤ k := Classical.byContradiction fun h => hP ⟨hin,fun h' => absurd h' h⟩
      refine ev_t (decide_eq_true (by omega)) ?_
      rw [w64_small (by omega) (by omega),show ((k : Int) - 1) = ((k - 1 : Nat) : Int) by omega]
      refine ev_bind (idx_lt (by omega)) (ev_bind (idx_lt h2) ?_)
      have e' : s.getD (k - 1) 0 = s[k - 1] := by simp [List.getD_eq_getElem?_getD,show k - 1 < s.length by omega]
      rw [e'] at hP
      have : decide (s[k-1] ≥ s[k]) = true := decide_eq_true (Classical.byContradiction fun h => hP ⟨hin,fun _ => by omega⟩)
      simp only [this,Z65.j1_eq _ mk_ok,cond_true]; (first | exact ev_rfl | exact Ev.of fun _ => trivial)
  · simp only [Z65.l0_succ _ mk_ok]
    refine ev_t (decide_eq_true (by omega)) (ev_bind (idx_lt h2) (ev_call (l00In_ret _ _ _) ?_))
    have e : s.getD k 0 = s[k] := by simp [List.getD_eq_getElem?_getD,h2]
    rw [e] at hP
    refine ev_f (by rw [pb_true hP.1]; rfl) ?_
    refine ev_d (fun hk => ?_) fun hk => ?_
    · rw [w64_small (by omega) (by omega),show ((k : Int) - 1) = ((k - 1 : Nat) : Int) by omega]
      refine ev_bind (idx_lt (by omega)) (ev_bind (idx_lt h2) ?_)
      have e' : s.getD (k - 1) 0 = s[k - 1] := by simp [List.getD_eq_getElem?_getD,show k - 1 < s.length by omega]
      rw [e'] at hP
      have : decide (s[k-1] ≥ s[k]) = false := decide_eq_false (by have := hP.2 (by omega); omega)
      simp only [this,Z65.j1_eq _ mk_ok,cond_false]
      rw [w64_succ (by omega)]; exact ih
    · simp only [Z65.j1_eq _ mk_ok,cond_false]
      rw [w64_succ (by omega)]; exact ih
  · simp only [Z65.l0_succ _ mk_ok]
    exact ev_f (decide_eq_false (by omega)) ev_rfl
  · refine congrArg (fun b : Bool => some (⟨o_Z65,(b,())⟩ : Dv)) (pb_congr ⟨fun h => ⟨fun j h1 h2 => (h j (by omega) h2).2 h1,fun x hx => ?_⟩,fun ⟨h1,h2⟩ j _ hj => ⟨?_,fun h3 => h1 j h3 hj⟩⟩)
    · obtain ⟨j,hj,rfl⟩ := List.mem_iff_getElem.1 hx
      simpa [List.getD_eq_getElem?_getD,hj] using (h j (by omega) hj).1
    · simpa [List.getD_eq_getElem?_getD,hj] using h2 _ (List.getElem_mem hj)

theorem l05Simplex_ret (s : Sim) (hs : Sm yL s) : Ret E n_Z72 [dL s] ⟨o_Z72,(pb (Vx s),())⟩ := by
  refine ret_of ?_
  simp only [run_Z72,Z72.ev]
  refine ev_call (l00In_ret _ _ _) (ev_b (fun h1 => ev_call (l00Rises_ret s _ _ hs) (ev_some ?_)) fun h1 => ev_some ?_)
  · have h1 := pb_iff.1 h1
    exact congrArg (fun b : Bool => some (⟨o_Z72,(b,())⟩ : Dv)) (pb_congr ⟨fun h => ⟨by omega,by omega,h.1,h.2⟩,fun h => ⟨h.2.2.1,h.2.2.2⟩⟩)
  · rw [pb_false fun h => pb_not.1 h1 ⟨by have := h.1; omega,by have := h.2.1; omega⟩]

/-! comparing -/
def cmp3 (a b : Int) : Int := if a < b then -1 else if b < a then 1 else 0
def lexc : Sim → Sim → Int
  | [],[] => 0
  | [],_ :: _ => -1
  | _ :: _,[] => 1
  | x :: xs,y :: ys => if x < y then -1 else if y < x then 1 else lexc xs ys
def cmpS (a b : Sim) : Int := if cmp3 a.length b.length ≠ 0 then cmp3 a.length b.length else lexc a b

theorem cmp3_zero {a b : Int} : cmp3 a b = 0 ↔ a = b := by unfold cmp3; split <;> (try split) <;> omega
theorem cmp3_neg {a b : Int} : cmp3 b a = - cmp3 a b := by unfold cmp3; split <;> split <;> (try split) <;> omega
theorem cmp3_lt {a b : Int} : cmp3 a b < 0 ↔ a < b := by unfold cmp3; split <;> (try split) <;> omega
theorem lexc_eq : ∀ {a b : Sim},lexc a b = 0 ↔ a = b
  | [],[] => by simp [lexc]
  | [],_ :: _ => by simp [lexc]
  | _ :: _,[] => by simp [lexc]
  | x :: xs,y :: ys => by
    have := @lexc_eq xs ys
    simp only [lexc,List.cons.injEq]
    split
    · constructor
      · intro h; omega
      · rintro ⟨rfl,_⟩; omega
    · split
      · constructor
        · intro h; omega
        · rintro ⟨rfl,_⟩; omega
      · rw [this]; constructor
        · intro h; exact ⟨by omega,h⟩
        · exact fun h => h.2
theorem lexc_neg : ∀ {a b : Sim},lexc b a = - lexc a b
  | [],[] => by simp [lexc]
  | [],_ :: _ => by simp [lexc]
  | _ :: _,[] => by simp [lexc]
  | x :: xs,y :: ys => by
    have := @lexc_neg xs ys
    simp only [lexc]
    split <;> split <;> (try split) <;> omega
theorem lexc_trans : ∀ {a b c : Sim},lexc a b < 0 → lexc b c < 0 → lexc a c < 0
  | [],[],c,h,_ => by simp [lexc] at h
  | [],_ :: _,[],_,h => by simp [lexc] at h
  | [],_ :: _,_ :: _,_,_ => by simp [lexc]
  | _ :: _,[],_,h,_ => by simp [lexc] at h
  | _ :: _,_ :: _,[],_,h => by simp [lexc] at h
  | x :: xs,y :: ys,z :: zs,h1,h2 => by
    have := @lexc_trans xs ys zs
    simp only [lexc] at h1 h2 ⊢
    split at h1 <;> split at h2 <;> (try split at h1) <;> (try split at h2) <;> (try split) <;> (try split) <;> first | omega | (exact this h1 h2)
theorem cmpS_zero {a b : Sim} : cmpS a b = 0 ↔ a = b := by
  unfold cmpS
  split
  · rename_i h
    exact ⟨fun h' => absurd h' h,fun h' => absurd (cmp3_zero.2 (by rw [h'])) h⟩
  · exact lexc_eq
theorem cmpS_neg {a b : Sim} : cmpS b a = - cmpS a b := by
  unfold cmpS
  rw [@cmp3_neg a.length b.length]
  split <;> split <;> first | omega | exact lexc_neg
theorem cmpS_lt {a b : Sim} : cmpS a b < 0 ↔ a.length < b.length ∨ a.length = b.length ∧ lexc a b < 0 := by
  unfold cmpS
  split
  · rename_i h
    rw [cmp3_lt]
    rw [Ne,cmp3_zero] at h
    omega
  · rename_i h
    rw [Classical.not_not,cmp3_zero] at h
    omega
theorem cmpS_trans {a b c : Sim} (h1 : cmpS a b < 0) (h2 : cmpS b c < 0) : cmpS a c < 0 := by
  rw [cmpS_lt] at *
  rcases h1 with h1 | ⟨h1,h1'⟩ <;> rcases h2 with h2 | ⟨h2,h2'⟩
  · left; omega
  · left; omega
  · left; omega
  · right; exact ⟨by omega,lexc_trans h1' h2'⟩

theorem isNaNi_ret (a : Int) : Ret E n_Z3 [dI a] ⟨o_Z3,(false,())⟩ := by
  refine ret_of ?_
  simp only [run_Z3,Z3.ev]
  exact ev_some (by simp)
theorem isNaN_ret (a : Int) : Ret E n_Z4 [dI a] ⟨o_Z4,(false,())⟩ := by
  refine ret_of ?_
  simp only [run_Z4,Z4.ev]
  exact ev_some (by simp)

theorem Comparei_ret (a b : Int) : Ret E n_Z0 [dI a,dI b] ⟨o_Z0,(cmp3 a b,())⟩ := by
  refine ret_of ?_
  simp only [run_Z0,Z0.ev]
  refine ev_call (isNaNi_ret _) (ev_call (isNaNi_ret _) (ev_f rfl (ev_f rfl (ev_d (fun h => ev_some ?_) fun h => ev_d (fun h2 => ev_some ?_) fun h2 => ev_some ?_))))
  · rw [cmp3,if_pos h]
  · rw [cmp3,if_neg h,if_pos h2]
  · rw [cmp3,if_neg h,if_neg h2]
theorem Compare_ret (a b : Int) : Ret E n_Z1 [dI a,dI b] ⟨o_Z1,(cmp3 a b,())⟩ := by
  refine ret_of ?_
  simp only [run_Z1,Z1.ev]
  refine ev_call (isNaN_ret _) (ev_call (isNaN_ret _) (ev_f rfl (ev_f rfl (ev_d (fun h => ev_some ?_) fun h => ev_d (fun h2 => ev_some ?_) fun h2 => ev_some ?_))))
  · rw [cmp3,if_pos h]
  · rw [cmp3,if_neg h,if_pos h2]
  · rw [cmp3,if_neg h,if_neg h2]

theorem lexc_step {a b : Sim} {k : Nat} (h : k < a.length) (h' : k < b.length) : lexc (a.drop k) (b.drop k) = if cmp3 a[k] b[k] ≠ 0 then cmp3 a[k] b[k] else lexc (a.drop (k + 1)) (b.drop (k + 1)) := by
  rw [List.drop_eq_getElem_cons h,List.drop_eq_getElem_cons h',lexc]
  unfold cmp3
  split
  · simp
  · split
    · simp
    · simp

theorem SliceCompare_ret (a b : Sim) (ha : Sm yL a) : Ret E n_Z44 [dL a,dL b] ⟨o_Z44,(lexc a b,())⟩ := by
  have ha1 : a.length ≤ 1048576 := ha.1
  refine ret_of ?_
  simp only [run_Z44,Z44.ev]
  refine Ev.start (p := fun φ n => Z44.l0 (mkR (run E (φ 0))) (φ 0) n a b a (a.length : Int) 0 = _) 1 ?_ (fun _ _ _ h => h)
  refine loopR 1 (σ := Nat) (L := fun φ n k => Z44.l0 (mkR (run E (φ 0))) (φ 0) n a b a (a.length : Int) (k : Int)) (fun _ _ _ _ => rfl) (fun k => k ≤ a.length ∧ k ≤ b.length) (fun k => some ⟨o_Z44,(lexc (a.drop k) (b.drop k),())⟩) (fun k => a.length - k) (fun k ⟨hk,hkb⟩ ih => ?_) 0 ⟨Nat.zero_le _,Nat.zero_le _⟩
  simp only [Z44.l0_succ _ mk_ok]
  refine ev_d (fun h => ?_) fun h => ?_
  · have hka : k < a.length := by omega
    refine ev_bind (idx_lt hka) (ev_d (fun h2 => ev_some ?_) fun h2 => ?_)
    · rw [List.drop_eq_getElem_cons hka,List.drop_of_length_le (l := b) (by omega),lexc]
    · have hkb : k < b.length := by omega
      refine ev_bind (idx_lt hkb) (ev_call (Compare_ret _ _) (ev_b (fun h3 => ev_some ?_) fun h3 => ?_))
      · rw [lexc_step hka hkb,if_pos (by simpa using h3)]
      · rw [w64_succ (by omega)]
        refine (ih (k + 1) ⟨by omega,by omega⟩ (by omega)).to ?_
        rw [lexc_step hka hkb,if_neg (by simpa using h3)]
  · have e : k = a.length := by omega
    subst e
    refine ev_d (fun h2 => ev_some ?_) fun h2 => ev_some ?_
    · rw [List.drop_of_length_le (l := a) (by omega),List.drop_eq_getElem_cons (l := b) (by omega),lexc]
    · rw [List.drop_of_length_le (l := a) (by omega),List.drop_of_length_le (l := b) (by omega),lexc]

theorem Or2_ret (a b : Int) : Ret E n_Z2 [dL [a,b]] ⟨o_Z2,(if a ≠ 0 then a else b,())⟩ := by
  refine ret_of ?_
  simp only [run_Z2,Z2.ev]
  refine Ev.start (p := fun φ n => Z2.l0 (mkR (run E (φ 0))) (φ 0) n 0 [a,b] ([a,b].length : Int) 0 = _) 1 ?_ (fun _ _ _ h => h)
  refine Ev.round 1 (L := fun φ n => Z2.l0 (mkR (run E (φ 0))) (φ 0) n 0 [a,b] ([a,b].length : Int) 0) ?_ (fun _ _ _ => rfl)
  simp only [Z2.l0_succ _ mk_ok]
  refine ev_t (by simp) (ev_bind (x := a) rfl (ev_b (fun h => ev_some ?_) fun h => ?_))
  · rw [if_pos (by simpa using h)]
  · rw [if_neg (by simpa using h)]
    rw [show w64 ((0 : Int) + 1) = 1 by decide]
    refine Ev.round 1 (L := fun φ n => Z2.l0 (mkR (run E (φ 0))) (φ 0) n 0 [a,b] ([a,b].length : Int) 1) ?_ (fun _ _ _ => rfl)
    simp only [Z2.l0_succ _ mk_ok]
    refine ev_t (by simp) (ev_bind (x := b) rfl (ev_b (fun h => ev_rfl) fun h => ?_))
    rw [show w64 ((1 : Int) + 1) = 2 by decide]
    refine Ev.round 1 (L := fun φ n => Z2.l0 (mkR (run E (φ 0))) (φ 0) n 0 [a,b] ([a,b].length : Int) 2) ?_ (fun _ _ _ => rfl)
    simp only [Z2.l0_succ _ mk_ok]
    refine ev_f (by simp) (ev_some ?_)
    have : b = 0 := by simpa using h
    rw [this]

theorem compareSimplices_ret (a b : Sim) (ha : Sm yL a) : Ret E n_Z11 [dL a,dL b] ⟨o_Z11,(cmpS a b,())⟩ := by
  refine ret_of ?_
  simp only [run_Z11,Z11.ev]
  exact ev_call (Comparei_ret _ _) (ev_call (SliceCompare_ret a b ha) (ev_call (Or2_ret _ _) ev_rfl))

theorem l05Before_ret (a b : Sim) (ha : Sm yL a) : Ret E n_Z67 [dL a,dL b] ⟨o_Z67,(pb (cmpS a b < 0),())⟩ := by
  have ha1 : a.length ≤ 1048576 := ha.1
  refine ret_of ?_
  simp only [run_Z67,Z67.ev]
  refine ev_b (fun h => ev_some ?_) fun h => ?_
  · have h : (a.length : Int) ≠ b.length := by simpa using h
    rw [pb_dec,pb_congr (show (a.length : Int) < b.length ↔ cmpS a b < 0 by rw [cmpS_lt]; omega)]
  · have h : a.length = b.length := by have : (a.length : Int) = b.length := by simpa using h
                                       omega
    refine Ev.start (p := fun φ n => Z67.l0 (mkR (run E (φ 0))) (φ 0) n a b 0 = _) 1 ?_ (fun _ _ _ h => h)
    refine (loopR 1 (σ := Nat) (L := fun φ n k => Z67.l0 (mkR (run E (φ 0))) (φ 0) n a b (k : Int)) (fun _ _ _ _ => rfl) (fun k => k ≤ a.length) (fun k => some ⟨o_Z67,(pb (lexc (a.drop k) (b.drop k) < 0),())⟩) (fun k => a.length - k) (fun k hk ih => ?_) 0 (Nat.zero_le _)).to ?_
    · simp only [Z67.l0_succ _ mk_ok]
      refine ev_d (fun h1 => ?_) fun h1 => ?_
      · have hka : k < a.length := by omega
        have hkb : k < b.length := by omega
        have e := lexc_step hka hkb
        refine ev_bind (idx_lt hka) (ev_bind (idx_lt hkb) (ev_b (fun h3 => ?_) fun h3 => ?_))
        · refine ev_bind (idx_lt hka) (ev_bind (idx_lt hkb) (ev_some ?_))
          have h3 : a[k] ≠ b[k] := by simpa using h3
          rw [if_pos (by rw [Ne,cmp3_zero]; exact h3)] at e
          rw [e,pb_dec,pb_congr cmp3_lt]
        · have h3 : a[k] = b[k] := by simpa using h3
          rw [if_neg (by rw [Classical.not_not,cmp3_zero]; exact h3)] at e
          rw [w64_succ (by omega),e]
          exact ih (k + 1) (by show k + 1 ≤ _; omega) (by show a.length - (k + 1) < _; omega)
      · refine ev_some ?_
        have hk : k ≤ a.length := hk
        have e : k = a.length := by omega
        subst e
        rw [List.drop_of_length_le (l := a) (by omega),List.drop_of_length_le (l := b) (by omega),lexc,pb_false (by omega)]
    · refine congrArg (fun b : Bool => some (⟨o_Z67,(b,())⟩ : Dv)) (pb_congr ?_)
      simp only [List.drop_zero]; rw [cmpS_lt]; omega

end VeT

open Go Go.Proofs Ve
set_option linter.unusedVariables false
set_option linter.unusedSimpArgs false
namespace VeT

theorem getD_lt {α : Type} {s : List α} {k : Nat} {d : α} (h : k < s.length) : s.getD k d = s[k] := by simp [List.getD_eq_getElem?_getD,h]
theorem sm_get {t : Ty} {s : List t.T} (h : Sm (.sl t) s) {k : Nat} (hk : k < s.length) : Sm t s[k] := h.2 _ (List.getElem_mem hk)
theorem sm_ints {s : Sim} (h : s.length ≤ 1048576) : Sm yL s := ⟨h,fun _ _ => trivial⟩

theorem l00Own_ret (s : Sim) (hs : s.length ≤ 1048576) : Ret E n_Z64 [dL s] ⟨o_Z64,(s,())⟩ := by
  refine ret_of ?_
  simp only [run_Z64,Z64.ev]
  exact ev_chk (by simp; omega) (ev_some rfl)

theorem l05Drop_ret (s : Sim) (k : Nat) (hk : k < s.length) (hs : s.length ≤ 1048576) : Ret E n_Z68 [dL s,dI (k : Int)] ⟨o_Z68,(s.eraseIdx k,())⟩ := by
  refine ret_of ?_
  simp only [run_Z68,Z68.ev]
  rw [w64_succ (by omega)]
  simp only [Int.toNat_natCast]
  refine ev_chk (by simp; omega) (ev_call (l00Own_ret _ (by simp; omega)) (ev_chk (by simp; omega) (ev_chk (by simp; omega) (ev_some ?_))))
  rw [List.eraseIdx_eq_take_drop_succ]

theorem l00SameP_ret (a b : Sim) (ha : a.length ≤ 1048576) : Ret E n_Z66 [dL a,dL b] ⟨o_Z66,(pb (a = b),())⟩ := by
  refine ret_of ?_
  simp only [run_Z66,Z66.ev]
  refine ev_b (fun h => ev_some ?_) fun h => ?_
  · have h : (a.length : Int) ≠ b.length := by simpa using h
    rw [pb_false fun e => h (by rw [e])]
  · have h : (a.length : Int) = b.length := by simpa using h
    refine Ev.start (p := fun φ n => Z66.l0 (mkR (run E (φ 0))) (φ 0) n a b 0 = _) 1 ?_ (fun _ _ _ h => h)
    refine (all_pb 1 (L := fun φ n k => Z66.l0 (mkR (run E (φ 0))) (φ 0) n a b k) (len := a.length) 0 (by omega) (fun j => a.getD j 0 = b.getD j 0) (fun b => some ⟨o_Z66,(b,())⟩) (fun _ _ _ _ => rfl) (fun k h1 h2 hP _ => ?_) (fun k r h1 h2 hP _ ih => ?_) (fun _ => ?_)).to ?_
    · simp only [Z66.l0_succ _ mk_ok]
      have hb : k < b.length := by omega
      rw [getD_lt h2,getD_lt hb] at hP
      exact ev_t (decide_eq_true (by omega)) (ev_bind (idx_lt h2) (ev_bind (idx_lt hb) (ev_t (by simpa using hP) ev_rfl)))
    · simp only [Z66.l0_succ _ mk_ok]
      have hb : k < b.length := by omega
      rw [getD_lt h2,getD_lt hb] at hP
      refine ev_t (decide_eq_true (by omega)) (ev_bind (idx_lt h2) (ev_bind (idx_lt hb) (ev_f (by simpa using hP) ?_)))
      rw [w64_succ (by omega)]; exact ih
    · simp only [Z66.l0_succ _ mk_ok]
      exact ev_f (decide_eq_false (by omega)) ev_rfl
    · refine congrArg (fun b : Bool => some (⟨o_Z66,(b,())⟩ : Dv)) (pb_congr ⟨fun hh => List.ext_getElem (by omega) fun j h1 h2 => ?_,fun hh j _ _ => by rw [hh]⟩)
      have := hh j (by omega) h1
      rwa [getD_lt h1,getD_lt h2] at this

noncomputable def findI (c : List Sim) (s : Sim) : Int := idxf (fun x => pb (x = s)) c
theorem findI_nonneg {c : List Sim} {s : Sim} : 0 ≤ findI c s ↔ s ∈ c := by
  unfold findI
  rw [idxf_nonneg]
  simp only [pb_iff]
  exact ⟨fun ⟨x,h,e⟩ => e ▸ h,fun h => ⟨s,h,rfl⟩⟩

theorem l05Find_ret (c : Cpx) (s : Sim) (hc : Sm yK c.1) : Ret E n_Z69 [dC c,dL s] ⟨o_Z69,(findI c.1 s,())⟩ := by
  have hc1 : c.1.length ≤ 1048576 := hc.1
  obtain ⟨o,h1,h2,h3⟩ := find_loop 1 (L := fun φ n k => Z69.l0 (mkR (run E (φ 0))) (φ 0) n c s k) (len := c.1.length) (fun k => ∃ h : k < c.1.length,pb (c.1[k] = s) = true) (fun o => some ⟨o_Z69,(o2i o,())⟩) (fun _ _ _ _ => rfl) (fun k hk hP => by
      obtain ⟨_,hP⟩ := hP
      simp only [Z69.l0_succ _ mk_ok]
      refine ev_t (decide_eq_true (by omega)) (ev_bind (idx_lt hk) (ev_call (l00SameP_ret _ _ (sm_get hc hk).1) (ev_t hP ev_rfl)))) (fun k q hk hP ih => by
      simp only [Z69.l0_succ _ mk_ok]
      refine ev_t (decide_eq_true (by omega)) (ev_bind (idx_lt hk) (ev_call (l00SameP_ret _ _ (sm_get hc hk).1) (ev_f (Bool.eq_false_iff.2 fun h => hP ⟨hk,h⟩) ?_)))
      rw [w64_succ (by omega)]; exact ih) (by
      simp only [Z69.l0_succ _ mk_ok]
      exact ev_f (decide_eq_false (by omega)) ev_rfl)
  rw [idxf_of (p := fun x => pb (x = s)) h1 h2] at h3
  refine ret_of ?_
  simp only [run_Z69,Z69.ev]
  exact Ev.start (p := fun φ n => Z69.l0 (mkR (run E (φ 0))) (φ 0) n c s 0 = _) 1 h3 (fun _ _ _ h => h)

/-! joining,faces -/
theorem run_Grow (n : Nat) (args : List Dv) : run E (n + 1) n_Z53 args = pGrow yI (mkR (run E n)) args := rfl

theorem Grow_ret (s : Sim) (n : Int) (h0 : 0 ≤ n) (h1 : n ≤ 1048576) (hs : s.length ≤ 1048576) : Ret E n_Z53 [dL s,dI n] ⟨o_Z53,(s,())⟩ := by
  refine ret_of ?_
  simp only [run_Grow]
  refine ev_some ((if_pos (show 0 ≤ n ∧ ((List.length s : Int) + n) * (64 * (Ty.size (Ty.int IntKind.i64) : Int)) ≤ 70368744177664 from ⟨h0,?_⟩)).trans rfl)
  have : (Ty.size (Ty.int IntKind.i64)) = 1 := rfl
  rw [this]; omega

theorem Concat_ret (ll : List Sim) (hl : ll.length ≤ 1048576) (hf : ll.flatten.length ≤ 1048576) : Ret E n_Z45 [dLL ll] ⟨o_Z45,(ll.flatten,())⟩ := by
  have hle : ∀ k,(ll.take k).flatten.length ≤ ll.flatten.length := fun k => by
    have := congrArg List.length (congrArg List.flatten (List.take_append_drop k ll))
    rw [List.flatten_append,List.length_append] at this; omega
  have hst : ∀ k (h : k < ll.length),(ll.take (k + 1)).flatten = (ll.take k).flatten ++ ll[k] := fun k h => by
    rw [List.take_succ_eq_append_getElem h,List.flatten_append]; simp
  refine ret_of ?_
  simp only [run_Z45,Z45.ev]
  refine Ev.start (p := fun φ n => Z45.l0 (mkR (run E (φ 0))) (φ 0) n ll 0 ll (ll.length : Int) 0 = _) 1 ?_ (fun _ _ _ h => h)
  refine fold_loop 1 (L := fun φ n k a => Z45.l0 (mkR (run E (φ 0))) (φ 0) n ll a ll (ll.length : Int) k) (len := ll.length) (fun k => (((ll.take k).flatten.length : Nat) : Int)) (fun _ _ _ _ _ => rfl) (fun k r hk ih => ?_) ?_
  · simp only [Z45.l0_succ _ mk_ok]
    have := hle (k + 1)
    have e := hst k hk
    have e2 : w64 (((ll.take k).flatten.length : Nat) + (List.length (ll[k]) : Int)) = (((ll.take (k + 1)).flatten.length : Nat) : Int) := by
      rw [w64_small (by omega) (by rw [e,List.length_append] at this; omega),e,List.length_append]; omega
    refine ev_t (decide_eq_true (by omega)) (ev_bind (idx_lt hk) ?_)
    show Ev fun φ => (bif decide (w64 (((ll.take k).flatten.length : Nat) + (List.length (ll[k]) : Int)) < 0) then none else Z45.l0 (mkR (run E (φ 0))) (φ 0) (φ 1) ll (w64 (((ll.take k).flatten.length : Nat) + (List.length (ll[k]) : Int))) ll (ll.length : Int) (w64 ((k : Int) + 1))) = r
    rw [e2,w64_succ (by omega)]
    exact ev_f (decide_eq_false (by omega)) ih
  · simp only [Z45.l0_succ _ mk_ok]
    refine ev_f (decide_eq_false (by omega)) (ev_call (Grow_ret [] _ (by omega) (by have := hle ll.length; omega) (by simp)) ?_)
    refine Ev.start (p := fun φ n => Z45.l1 (mkR (run E (φ 0))) (φ 0) n ll (ll.length : Int) 0 [] = _) 2 ?_ (fun _ _ _ h => h)
    refine fold_loop 2 (L := fun φ n k a => Z45.l1 (mkR (run E (φ 0))) (φ 0) n ll (ll.length : Int) k a) (len := ll.length) (fun k => (ll.take k).flatten) (fun _ _ _ _ _ => rfl) (fun k r hk ih => ?_) ?_
    · simp only [Z45.l1_succ _ mk_ok]
      have := hle (k + 1)
      have e := hst k hk
      rw [e] at ih this
      rw [List.length_append] at this
      refine ev_t (decide_eq_true (by omega)) (ev_bind (idx_lt hk) (ev_chk (decide_eq_true (by show (_ + List.length ll[k]) * 8 ≤ _; omega)) ?_))
      rw [w64_succ (by omega)]
      exact ih
    · simp only [Z45.l1_succ _ mk_ok]
      refine ev_f (decide_eq_false (by omega)) (ev_some ?_)
      rw [List.take_of_length_le (Nat.le_refl _)]

def faces (s : Sim) : List Sim := if 1 < s.length then (List.range s.length).map (s.eraseIdx ·) else []

theorem faces_mem {s f : Sim} : f ∈ faces s ↔ 1 < s.length ∧ ∃ i,i < s.length ∧ f = s.eraseIdx i := by
  unfold faces
  split
  · rename_i h
    simp only [List.mem_map,List.mem_range,h,true_and]
    exact ⟨fun ⟨i,h1,h2⟩ => ⟨i,h1,h2.symm⟩,fun ⟨i,h1,h2⟩ => ⟨i,h1,h2.symm⟩⟩
  · rename_i h
    simp [h]

theorem faces_len {s f : Sim} (h : f ∈ faces s) : f.length + 1 = s.length := by
  obtain ⟨h1,i,h2,rfl⟩ := faces_mem.1 h
  rw [List.length_eraseIdx,if_pos h2]; omega

theorem faces_length {s : Sim} : (faces s).length ≤ s.length := by
  unfold faces; split <;> simp

theorem facesOf_ret (s : Sim) (hs : s.length ≤ 1048576) : Ret E n_Z13 [dL s] ⟨o_Z13,(faces s,())⟩ := by
  refine ret_of ?_
  simp only [run_Z13,Z13.ev]
  refine Ev.start (p := fun φ n => Z13.l0 (mkR (run E (φ 0))) (φ 0) n s (s.length : Int) 0 [] = _) 1 ?_ (fun _ _ _ h => h)
  by_cases h1 : 1 < s.length
  · refine fold_loop 1 (L := fun φ n k a => Z13.l0 (mkR (run E (φ 0))) (φ 0) n s (s.length : Int) k a) (len := s.length) (fun k => (List.range k).map (s.eraseIdx ·)) (fun _ _ _ _ _ => rfl) (fun k r hk ih => ?_) ?_
    · simp only [Z13.l0_succ _ mk_ok]
      rw [List.range_succ,List.map_append] at ih
      rw [w64_succ (by omega)]
      simp only [Int.toNat_natCast]
      refine ev_t (decide_eq_true (by omega)) (ev_t (decide_eq_true (by omega)) (ev_chk (by simp; omega) (ev_chk (by simp; omega) (ev_call (Concat_ret _ (by simp) (by simp; omega)) (ev_chk (by simp; omega) ?_)))))
      rw [show [s.take k,s.drop (k + 1)].flatten = s.eraseIdx k by simp [List.eraseIdx_eq_take_drop_succ]]
      exact ih
    · simp only [Z13.l0_succ _ mk_ok]
      exact ev_f (decide_eq_false (by omega)) (ev_some (by rw [faces,if_pos h1]))
  · refine fold_loop 1 (L := fun φ n k a => Z13.l0 (mkR (run E (φ 0))) (φ 0) n s (s.length : Int) k a) (len := s.length) (fun k => []) (fun _ _ _ _ _ => rfl) (fun k r hk ih => ?_) ?_
    · simp only [Z13.l0_succ _ mk_ok]
      rw [w64_succ (by omega)]
      exact ev_t (decide_eq_true (by omega)) (ev_f (decide_eq_false (by omega)) ih)
    · simp only [Z13.l0_succ _ mk_ok]
      exact ev_f (decide_eq_false (by omega)) (ev_some (by rw [faces,if_neg h1]))

/-! searching -/
def Srt (c : List Sim) : Prop := ∀ i j (h : j < c.length) (hij : i < j),cmpS c[i] c[j] < 0

theorem srt_of {c : List Sim} (h : ∀ k,1 ≤ k → k < c.length → cmpS (c.getD (k - 1) []) (c.getD k []) < 0) : Srt c := by
  intro i j
  induction j with
  | zero => intro _ h; omega
  | succ j ih =>
    intro hj hij
    have := h (j + 1) (by omega) hj
    rw [Nat.add_sub_cancel,getD_lt (by omega),getD_lt hj] at this
    by_cases e : i = j
    · subst e; exact this
    · exact cmpS_trans (ih (by omega) (by omega)) this

theorem Srt.take {c : List Sim} (h : Srt c) (k : Nat) : Srt (c.take k) := by
  intro i j hj hij
  rw [List.getElem_take,List.getElem_take]
  exact h i j (by rw [List.length_take] at hj; omega) hij

def bs (c : List Sim) (s : Sim) : Nat := c.findIdx (fun x => !decide (cmpS x s < 0))

theorem bs_le {c : List Sim} {s : Sim} : bs c s ≤ c.length := List.findIdx_le_length
theorem bs_lt {c : List Sim} {s : Sim} (hc : Srt c) {t : Nat} (h : t < c.length) : t < bs c s ↔ cmpS c[t] s < 0 := by
  constructor
  · intro ht
    have := List.not_of_lt_findIdx ht
    simpa using this
  · intro ht
    refine Classical.byContradiction fun hn => ?_
    have hb : bs c s < c.length := by omega
    have h1 : cmpS c[bs c s] s < 0 := by
      by_cases e : bs c s = t
      · simp only [e]; exact ht
      · exact cmpS_trans (hc _ _ h (by omega)) ht
    have := List.findIdx_getElem (w := hb)
    simp only [Bool.not_eq_true',decide_eq_false_iff_not] at this
    exact this h1

theorem bs_find {c : List Sim} {s : Sim} (hc : Srt c) : findI c s = if h : bs c s < c.length ∧ c.getD (bs c s) [] = s then (bs c s : Int) else -1 := by
  have e : c.findIdx? (fun x => pb (x = s)) = if bs c s < c.length ∧ c.getD (bs c s) [] = s then some (bs c s) else none := by
    split
    · rename_i h
      obtain ⟨h1,h2⟩ := h
      rw [List.findIdx?_eq_some_iff_getElem]
      rw [getD_lt h1] at h2
      refine ⟨h1,pb_true h2,fun j hj => ?_⟩
      rw [pb_iff]
      intro he
      have := (bs_lt (s := s) hc (show j < c.length by omega)).1 hj
      rw [he,cmpS_zero.2 rfl] at this
      omega
    · rename_i h
      rw [List.findIdx?_eq_none_iff]
      intro x hx
      rw [pb_not]
      rintro rfl
      obtain ⟨j,hj,rfl⟩ := List.mem_iff_getElem.1 hx
      have h0 : ¬ j < bs c c[j] := fun hlt => by
        have := (bs_lt hc hj).1 hlt
        rw [cmpS_zero.2 rfl] at this; omega
      by_cases hjb : bs c c[j] = j
      · exact h ⟨by omega,by rw [hjb,getD_lt hj]⟩
      · have hb : bs c c[j] < c.length := by omega
        have := (bs_lt (s := c[j]) hc hb).2 (hc _ _ hj (by omega))
        omega
  unfold findI idxf
  rw [e]
  split <;> rfl

theorem BinarySearch_ret (c : List Sim) (s : Sim) (hc : Sm yK c) (hs : Srt c) : Ret E n_Z40 [dLL c,dL s,⟨.fn n_Z11 .nil,()⟩] ⟨o_Z40,((bs c s : Int),pb (bs c s < c.length ∧ c.getD (bs c s) [] = s),())⟩ := by
  have hc1 : c.length ≤ 1048576 := hc.1
  refine ret_of ?_
  simp only [run_Z40,Z41.ev]
  refine Ev.start (p := fun φ n => Z41.l0 (mkR (run E (φ 0))) (φ 0) n c s (c.length : Int) 0 (c.length : Int) = _) 1 ?_ (fun _ _ _ h => h)
  refine loopR 1 (σ := Nat × Nat) (L := fun φ n st => Z41.l0 (mkR (run E (φ 0))) (φ 0) n c s (c.length : Int) (st.1 : Int) (st.2 : Int)) (fun _ _ _ _ => rfl) (fun st => st.1 ≤ bs c s ∧ bs c s ≤ st.2 ∧ st.2 ≤ c.length) (fun _ => _) (fun st => st.2 - st.1) (fun st hi ih => ?_) (0,c.length) ⟨Nat.zero_le _,bs_le,Nat.le_refl _⟩
  obtain ⟨i,j⟩ := st
  obtain ⟨h1,h2,h3⟩ := hi
  simp only at h1 h2 h3 ih
  simp only [Z41.l0_succ _ mk_ok]
  rw [half (by omega)]
  refine ev_d (fun hij => ?_) fun hij => ?_
  · have hh : (i + j) / 2 < c.length := by omega
    refine ev_chk (by decide) (ev_bind (idx_lt hh) (ev_call (compareSimplices_ret _ _ (sm_get hc hh)) (ev_d (fun hlt => ?_) fun hlt => ?_)))
    · rw [w64_succ (by omega)]
      have := (bs_lt hs hh).2 hlt
      exact ih ((i + j) / 2 + 1,j) ⟨this,h2,h3⟩ (by simp only; omega)
    · have : ¬ (i + j) / 2 < bs c s := fun h => hlt ((bs_lt hs hh).1 h)
      exact ih (i,(i + j) / 2) ⟨h1,by simp only; omega,by simp only; omega⟩ (by simp only; omega)
  · have e : i = bs c s := by omega
    subst e
    refine ev_d (fun hl => ?_) fun hl => ev_some ?_
    · have hh : bs c s < c.length := by omega
      refine ev_bind (idx_lt hh) (ev_call (compareSimplices_ret _ _ (sm_get hc hh)) (ev_some ?_))
      have : (cmpS c[bs c s] s == 0) = pb (bs c s < c.length ∧ c.getD (bs c s) [] = s) := eq_pb (by
        rw [getD_lt hh,beq_iff_eq,cmpS_zero]; exact ⟨fun h => ⟨hh,h⟩,fun h => h.2⟩)
      rw [this]
    · rw [pb_false fun h => hl (by omega)]

theorem indexOf_ret (c : List Sim) (s : Sim) (hc : Sm yK c) (hs : Srt c) : Ret E n_Z16 [dLL c,dL s] ⟨o_Z16,(findI c s,())⟩ := by
  refine ret_of ?_
  simp only [run_Z16,Z16.ev]
  refine ev_call (BinarySearch_ret c s hc hs) (ev_b (fun h => ev_some ?_) fun h => ev_some ?_)
  · rw [bs_find hs,dif_neg (pb_not.1 (by simpa using h))]
  · rw [bs_find hs,dif_pos (pb_iff.1 (by simpa using h))]

end VeT

open Go Go.Proofs Ve
set_option linter.unusedVariables false
set_option linter.unusedSimpArgs false
namespace VeT

/-- valid complexes -/
def VC (c : List Sim) : Prop := c.length ≤ 48 ∧ (∀ k,k < c.length → Vx (c.getD k [])) ∧ (∀ k,1 ≤ k → k < c.length → cmpS (c.getD (k - 1) []) (c.getD k []) < 0) ∧ ∀ k,k < c.length → ∀ f ∈ faces (c.getD k []),f ∈ c

theorem VC.srt {c : List Sim} (h : VC c) : Srt c := srt_of h.2.2.1

def VCimpl (c : List Sim) (k : Nat) : Prop := (Vx (c.getD k []) ∧ (1 ≤ k → cmpS (c.getD (k - 1) []) (c.getD k []) < 0)) ∧ ∀ f ∈ faces (c.getD k []),f ∈ c.take k

theorem VC_impl {c : List Sim} : ((∀ k,0 ≤ k → k < c.length → VCimpl c k) ∧ c.length ≤ 48) ↔ VC c := by
  constructor
  · rintro ⟨h,hl⟩
    exact ⟨hl,fun k hk => (h k (by omega) hk).1.1,fun k h1 hk => (h k (by omega) hk).1.2 h1,fun k hk f hf => List.mem_of_mem_take ((h k (by omega) hk).2 f hf)⟩
  · intro h
    have hs := h.srt
    obtain ⟨hl,h1,h2,h3⟩ := h
    refine ⟨fun k _ hk => ⟨⟨h1 k hk,fun hk1 => h2 k hk1 hk⟩,fun f hf => ?_⟩,hl⟩
    have hm := h3 k hk f hf
    have hlen := faces_len hf
    rw [getD_lt hk] at hlen
    obtain ⟨i,hi,rfl⟩ := List.mem_iff_getElem.1 hm
    have hlt : cmpS c[i] c[k] < 0 := cmpS_lt.2 (.inl (by omega))
    have hik : i < k := Classical.byContradiction fun hn => by
      by_cases e : i = k
      · subst e; omega
      · have := hs k i hi (by omega)
        rw [cmpS_neg] at this; omega
    exact List.mem_iff_getElem.2 ⟨i,by rw [List.length_take]; omega,by rw [List.getElem_take]⟩

theorem sm_take {t : Ty} {s : List t.T} (h : Sm (.sl t) s) (k : Nat) : Sm (.sl t) (s.take k) := ⟨by have h1 : s.length ≤ 1048576 := h.1; show (s.take k).length ≤ _; rw [List.length_take]; omega,fun x hx => h.2 x (List.mem_of_mem_take hx)⟩

theorem ValidComplex_1_ret (c : List Sim) (f : Sim) (k : Nat) (hk : k ≤ c.length) (hc : Sm yK c) (hs : Srt (c.take k)) :
    Ret E n_Z7 [dL f,dC (c,()),⟨.ptr (.cons yI .nil),((k : Int),())⟩] ⟨o_Z7,(pb (¬ f ∈ c.take k),())⟩ := by
  refine ret_of ?_
  simp only [run_Z7,Z7.ev]
  simp only [Int.toNat_natCast]
  refine ev_chk (by simp; omega) (ev_call (indexOf_ret _ f (sm_take hc k) hs) (ev_some ?_))
  simp only [pb_dec,pb_congr (show findI (c.take k) f < 0 ↔ ¬ f ∈ c.take k by rw [← findI_nonneg]; omega)]

theorem ValidComplex_ret (c : List Sim) (hc : Sm yK c) : Ret E n_Z6 [dLL c] ⟨o_Z6,(pb (VC c),())⟩ := by
  have hc1 : c.length ≤ 1048576 := hc.1
  refine ret_of ?_
  simp only [run_Z6,Z6.ev]
  refine Ev.start (p := fun φ n => Z6.l0 (mkR (run E (φ 0))) (φ 0) n c (c.length : Int) 0 c = _) 1 ?_ (fun _ _ _ h => h)
  have key : ∀ (n : Nat) (k : Nat) (hk : k < c.length) (hpre : ∀ j,0 ≤ j → j < k → VCimpl c j),Srt (c.take k) := fun n k hk hpre => srt_of fun j h1 h2 => by
    rw [List.length_take] at h2
    have := (hpre j (by omega) (by omega)).1.2 h1
    rw [getD_lt (by omega),getD_lt (by omega)] at this
    rw [getD_lt (by rw [List.length_take]; omega),getD_lt (by rw [List.length_take]; omega),List.getElem_take,List.getElem_take]
    exact this
  have hcon : ∀ (k : Nat) (hk : k < c.length) (hpre : ∀ j,0 ≤ j → j < k → VCimpl c j),Ret E n_Z46 [dLL (faces c[k]),⟨.fn n_Z7 (.cons (.ptr (.cons yK .nil)) (.cons (.ptr (.cons yI .nil)) .nil)),((c,()),((k : Int),()),())⟩] ⟨o_Z46,(pb (∃ x ∈ faces c[k],pb (¬ x ∈ c.take k) = true),())⟩ := fun k hk hpre =>
    ContainsFunc_SSint64_Sint64_impl_ValidComplex_1_ret (faces c[k]) ((c,()),((k : Int),()),()) _ (Nat.le_trans faces_length (sm_get hc hk).1) fun x hx => ValidComplex_1_ret c x k (by omega) hc (key 0 k hk hpre)
  refine (all_pb 1 (L := fun φ n k => Z6.l0 (mkR (run E (φ 0))) (φ 0) n c (c.length : Int) k c) (len := c.length) 0 (by omega) (VCimpl c) (fun b => some ⟨o_Z6,(b && decide ((c.length : Int) ≤ 48),())⟩) (fun _ _ _ _ => rfl) (fun k h1 h2 hP hpre => ?_) (fun k r h1 h2 hP hpre ih => ?_) (fun _ => ?_)).to ?_
  · simp only [Z6.l0_succ _ mk_ok]
    refine ev_t (decide_eq_true (by omega)) (ev_bind (idx_lt h2) (ev_call (ValidSimplex_ret _ (sm_get hc h2)) ?_))
    refine ev_b (fun hv => ?_) fun hv => ?_
    · simp only [Z6.j1_eq _ mk_ok,cond_true]; (first | exact ev_rfl | exact Ev.of fun _ => trivial)
    · have hv : Vx c[k] := pb_iff.1 (by simpa using hv)
      have last : (1 ≤ k → cmpS (c.getD (k - 1) []) (c.getD k []) < 0) → Ev fun φ => Z6.j1 (mkR (run E (φ 0))) (φ 0) (φ 1) c[k] c (c.length : Int) (k : Int) false c (k : Int) = some ⟨o_Z6,(false,())⟩ := fun hcm => by
        simp only [Z6.j1_eq _ mk_ok,cond_false]
        refine ev_call (facesOf_ret _ (sm_get hc h2).1) (ev_call (hcon k h2 hpre) (ev_t ?_ ev_rfl))
        refine pb_true (Classical.byContradiction fun hn => hP ⟨⟨by rw [getD_lt h2]; exact hv,hcm⟩,fun f hf => Classical.byContradiction fun hnf => hn ⟨f,by rw [getD_lt h2] at hf; exact hf,pb_true hnf⟩⟩)
      refine ev_d (fun hk => ?_) fun hk => ?_
      · rw [w64_small (by omega) (by omega),show ((k : Int) - 1) = ((k - 1 : Nat) : Int) by omega]
        have hk1 : k - 1 < c.length := by omega
        refine ev_bind (idx_lt hk1) (ev_call (compareSimplices_ret _ _ (sm_get hc hk1)) ?_)
        by_cases hcm : cmpS c[k - 1] c[k] < 0
        · simp only [show decide (cmpS c[k - 1] c[k] ≥ 0) = false from decide_eq_false (by omega)]
          exact last fun _ => by rw [getD_lt hk1,getD_lt h2]; exact hcm
        · simp only [show decide (cmpS c[k - 1] c[k] ≥ 0) = true from decide_eq_true (by omega),Z6.j1_eq _ mk_ok,cond_true]
          (first | exact ev_rfl | exact Ev.of fun _ => trivial)
      · exact last fun h => absurd h (by omega)
  · simp only [Z6.l0_succ _ mk_ok]
    have hP' := hP
    obtain ⟨⟨hv,hcm⟩,hfc⟩ := hP'
    rw [getD_lt h2] at hv hfc
    refine ev_t (decide_eq_true (by omega)) (ev_bind (idx_lt h2) (ev_call (ValidSimplex_ret _ (sm_get hc h2)) (ev_f (by rw [pb_true hv]; rfl) ?_)))
    have last : Ev fun φ => Z6.j1 (mkR (run E (φ 0))) (φ 0) (φ 1) c[k] c (c.length : Int) (k : Int) false c (k : Int) = r := by
      simp only [Z6.j1_eq _ mk_ok,cond_false]
      refine ev_call (facesOf_ret _ (sm_get hc h2).1) (ev_call (hcon k h2 hpre) (ev_f ?_ ?_))
      · exact pb_false fun ⟨x,hx,hn⟩ => pb_iff.1 hn (hfc x hx)
      · rw [w64_succ (by omega)]; exact ih
    refine ev_d (fun hk => ?_) fun hk => last
    rw [w64_small (by omega) (by omega),show ((k : Int) - 1) = ((k - 1 : Nat) : Int) by omega]
    have hk1 : k - 1 < c.length := by omega
    have hcm := hcm (by omega)
    rw [getD_lt hk1,getD_lt h2] at hcm
    refine ev_bind (idx_lt hk1) (ev_call (compareSimplices_ret _ _ (sm_get hc hk1)) ?_)
    simp only [show decide (cmpS c[k - 1] c[k] ≥ 0) = false from decide_eq_false (by omega)]
    exact last
  · simp only [Z6.l0_succ _ mk_ok]
    exact ev_f (decide_eq_false (by omega)) (ev_some (by rw [Bool.true_and]))
  · have : (pb (∀ j,0 ≤ j → j < c.length → VCimpl c j) && decide ((c.length : Int) ≤ 48)) = pb (VC c) := eq_pb (by
      rw [Bool.and_eq_true,pb_iff,decide_eq_true_iff,← VC_impl]
      exact ⟨fun h => ⟨h.1,by omega⟩,fun h => ⟨h.1,by omega⟩⟩)
    rw [this]

def VCspec (c : List Sim) (k : Nat) : Prop := (Vx (c.getD k []) ∧ (1 ≤ k → cmpS (c.getD (k - 1) []) (c.getD k []) < 0)) ∧ ∀ f ∈ faces (c.getD k []),f ∈ c

theorem l05Ok_ret (c : Cpx) (hc : Sm yK c.1) : Ret E n_Z70 [dC c] ⟨o_Z70,(pb (VC c.1),())⟩ := by
  have hc1 : c.1.length ≤ 1048576 := hc.1
  refine ret_of ?_
  simp only [run_Z70,Z70.ev]
  refine ev_d (fun h => ev_some ?_) fun h48 => ?_
  · rw [pb_false fun hv => by have := hv.1; omega]
  refine Ev.start (p := fun φ n => Z70.l0 (mkR (run E (φ 0))) (φ 0) n c 0 = _) 1 ?_ (fun _ _ _ h => h)
  -- the inner loop
  have inner : ∀ (k : Nat) (h2 : k < c.1.length) (r : Option Dv),((∀ f ∈ faces c.1[k],f ∈ c.1) → Ev fun φ => Z70.l0 (mkR (run E (φ 0))) (φ 0) (φ 1) c ((k + 1 : Nat) : Int) = r) → (¬ (∀ f ∈ faces c.1[k],f ∈ c.1) → r = some ⟨o_Z70,(false,())⟩) → Ev fun φ => Z70.l2 (mkR (run E (φ 0))) (φ 0) (φ 1) (φ 0) c (k : Int) c.1[k] 0 = r := fun k h2 r hgo hstop => by
    have hks : (c.1[k]).length ≤ 1048576 := (sm_get hc h2).1
    refine Ev.start (p := fun φ n => Z70.l2 (mkR (run E (φ 0))) (φ 0) (φ 1) n c (k : Int) c.1[k] 0 = _) 2 ?_ (fun _ _ _ h => h)
    by_cases hlen : 1 < (c.1[k]).length
    · obtain ⟨t,f⟩ := all_loop 2 (L := fun φ n i => Z70.l2 (mkR (run E (φ 0))) (φ 0) (φ 1) n c (k : Int) c.1[k] i) (len := (c.1[k]).length) 0 (by omega) (fun i => (c.1[k]).eraseIdx i ∈ c.1) (rt := r) (rf := some ⟨o_Z70,(false,())⟩) (fun _ _ _ _ => rfl) (fun i _ hi hP _ => by
        simp only [Z70.l2_succ _ mk_ok]
        refine ev_t (decide_eq_true (by omega)) ?_
        simp only [show decide (((c.1[k]).length : Int) > 1) = true from decide_eq_true (by omega),Z70.j3_eq _ mk_ok,cond_true]
        refine ev_call (l05Drop_ret _ i hi hks) (ev_call (l05Find_ret c _ hc) (ev_t (decide_eq_true ?_) ev_rfl))
        have hq := mt (findI_nonneg (c := c.1) (s := (c.1[k]).eraseIdx i)).1 hP; simp only; exact Int.not_le.1 hq) (fun i q _ hi hP _ ih => by
        simp only [Z70.l2_succ _ mk_ok]
        refine ev_t (decide_eq_true (by omega)) ?_
        simp only [show decide (((c.1[k]).length : Int) > 1) = true from decide_eq_true (by omega),Z70.j3_eq _ mk_ok,cond_true]
        refine ev_call (l05Drop_ret _ i hi hks) (ev_call (l05Find_ret c _ hc) (ev_f (decide_eq_false ?_) ?_))
        · have hq := (findI_nonneg (c := c.1) (s := (c.1[k]).eraseIdx i)).2 hP; simp only; exact Int.not_lt.2 hq
        · rw [w64_succ (by omega)]; exact ih) (fun hall => by
        simp only [Z70.l2_succ _ mk_ok]
        refine ev_f (decide_eq_false (by omega)) ?_
        simp only [Z70.j3_eq _ mk_ok,cond_false]
        rw [w64_succ (by omega)]
        exact hgo fun f hf => by
          obtain ⟨_,i,hi,rfl⟩ := faces_mem.1 hf
          exact hall i (by omega) hi)
      by_cases hall : ∀ i,0 ≤ i → i < (c.1[k]).length → (c.1[k]).eraseIdx i ∈ c.1
      · exact t hall
      · rw [hstop fun hf => hall fun i _ hi => hf _ (faces_mem.2 ⟨hlen,i,hi,rfl⟩)]
        exact f hall
    · refine Ev.round 2 (L := fun φ n => Z70.l2 (mkR (run E (φ 0))) (φ 0) (φ 1) n c (k : Int) c.1[k] 0) ?_ (fun _ _ _ => rfl)
      have hgo := hgo fun f hf => absurd (faces_mem.1 hf).1 hlen
      have hj : Ev fun φ => Z70.j3 (mkR (run E (φ 0))) (φ 0) (φ 1) (φ 2) c (k : Int) c.1[k] 0 false = r := by
        simp only [Z70.j3_eq _ mk_ok,cond_false]
        rw [w64_succ (by omega)]; exact hgo
      simp only [Z70.l2_succ _ mk_ok]
      refine ev_d (fun _ => ?_) fun _ => hj
      simp only [show decide (((c.1[k]).length : Int) > 1) = false from decide_eq_false (by omega)]
      exact hj
  refine (all_pb 1 (L := fun φ n k => Z70.l0 (mkR (run E (φ 0))) (φ 0) n c k) (len := c.1.length) 0 (by omega) (VCspec c.1) (fun b => some ⟨o_Z70,(b,())⟩) (fun _ _ _ _ => rfl) (fun k h1 h2 hP hpre => ?_) (fun k r h1 h2 hP hpre ih => ?_) (fun _ => ?_)).to ?_
  · simp only [Z70.l0_succ _ mk_ok]
    refine ev_t (decide_eq_true (by omega)) (ev_bind (idx_lt h2) (ev_call (l05Simplex_ret _ (sm_get hc h2)) ?_))
    refine ev_b (fun hv => ?_) fun hv => ?_
    · simp only [Z70.j1_eq _ mk_ok,cond_true]; (first | exact ev_rfl | exact Ev.of fun _ => trivial)
    · have hv : Vx c.1[k] := pb_iff.1 (by simpa using hv)
      have last : (1 ≤ k → cmpS (c.1.getD (k - 1) []) (c.1.getD k []) < 0) → Ev fun φ => Z70.j1 (mkR (run E (φ 0))) (φ 0) (φ 1) c (k : Int) c.1[k] false = some ⟨o_Z70,(false,())⟩ := fun hcm => by
        simp only [Z70.j1_eq _ mk_ok,cond_false]
        refine inner k h2 _ (fun hf => absurd ⟨⟨by rw [getD_lt h2]; exact hv,hcm⟩,by rw [getD_lt h2]; exact hf⟩ hP) fun _ => rfl
      refine ev_d (fun hk => ?_) fun hk => ?_
      · rw [w64_small (by omega) (by omega),show ((k : Int) - 1) = ((k - 1 : Nat) : Int) by omega]
        have hk1 : k - 1 < c.1.length := by omega
        refine ev_bind (idx_lt hk1) (ev_call (l05Before_ret _ _ (sm_get hc hk1)) ?_)
        by_cases hcm : cmpS c.1[k - 1] c.1[k] < 0
        · simp only [pb_true hcm]
          exact last fun _ => by rw [getD_lt hk1,getD_lt h2]; exact hcm
        · simp only [pb_false hcm,Z70.j1_eq _ mk_ok,cond_true,Bool.not_false]
          (first | exact ev_rfl | exact Ev.of fun _ => trivial)
      · exact last fun h => absurd h (by omega)
  · simp only [Z70.l0_succ _ mk_ok]
    obtain ⟨⟨hv,hcm⟩,hfc⟩ := hP
    rw [getD_lt h2] at hv hfc
    refine ev_t (decide_eq_true (by omega)) (ev_bind (idx_lt h2) (ev_call (l05Simplex_ret _ (sm_get hc h2)) (ev_f (by rw [pb_true hv]; rfl) ?_)))
    have last : Ev fun φ => Z70.j1 (mkR (run E (φ 0))) (φ 0) (φ 1) c (k : Int) c.1[k] false = r := by
      simp only [Z70.j1_eq _ mk_ok,cond_false]
      exact inner k h2 _ (fun _ => ih) fun hn => absurd hfc hn
    refine ev_d (fun hk => ?_) fun hk => last
    rw [w64_small (by omega) (by omega),show ((k : Int) - 1) = ((k - 1 : Nat) : Int) by omega]
    have hk1 : k - 1 < c.1.length := by omega
    have hcm := hcm (by omega)
    rw [getD_lt hk1,getD_lt h2] at hcm
    refine ev_bind (idx_lt hk1) (ev_call (l05Before_ret _ _ (sm_get hc hk1)) ?_)
    simp only [pb_true hcm,Bool.not_true]
    exact last
  · simp only [Z70.l0_succ _ mk_ok]
    exact ev_f (decide_eq_false (by omega)) ev_rfl
  · have : pb (∀ j,0 ≤ j → j < c.1.length → VCspec c.1 j) = pb (VC c.1) := pb_congr
      ⟨fun h => ⟨by omega,fun k hk => (h k (by omega) hk).1.1,fun k h1 hk => (h k (by omega) hk).1.2 h1,fun k hk => (h k (by omega) hk).2⟩,
       fun h k _ hk => ⟨⟨h.2.1 k hk,fun h1 => h.2.2.1 k h1 hk⟩,h.2.2.2 k hk⟩⟩
    rw [this]

end VeT

open Go Go.Proofs Ve
set_option linter.unusedVariables false
set_option linter.unusedSimpArgs false
namespace VeT

/-- primes up to 251 -/
def Pr (p : Int) : Prop := 2 ≤ p ∧ p ≤ 251 ∧ ∀ k : Nat,2 ≤ k → (k : Int) * k ≤ p → p % k ≠ 0

/-! matrices -/
def Elems (v : Sim) (p : Int) : Prop := ∀ x ∈ v,0 ≤ x ∧ x ≤ p - 1

theorem none_bad {α : Type} {s : List α} {P : α → Prop} : (!pb (∃ x ∈ s,(!pb (P x)) = true)) = pb (∀ x ∈ s,P x) := eq_pb (by
  simp only [Bool.not_eq_true',pb_not]
  exact ⟨fun h x hx => Classical.byContradiction fun hn => h ⟨x,hx,hn⟩,fun h ⟨x,hx,hn⟩ => hn (h x hx)⟩)

theorem sizeL_ret (s : List Sim) : Ret E n_Z21 [dLL s] ⟨o_Z21,((s.length : Int),())⟩ := by
  refine ret_of ?_
  simp only [run_Z21,Z21.ev]
  (first | exact ev_rfl | exact Ev.of fun _ => trivial)

/-- valid matrices -/
def VM (m : Mat) : Prop := Pr m.1 ∧ (0 ≤ m.2.1 ∧ m.2.1 ≤ 32) ∧ (0 ≤ m.2.2.1 ∧ m.2.2.1 ≤ 32) ∧ (m.2.2.2.1.length : Int) = m.2.1 * m.2.2.1 ∧ Elems m.2.2.2.1 m.1

def Bt (m : Mat) (p f t : Int) : Prop := VM m ∧ m.1 = p ∧ m.2.1 = t ∧ m.2.2.1 = f

/-! stalks -/
def ofDim (c : List Sim) (d : Int) (k : Nat) : List Int := ((List.range k).filter fun i => decide (((c.getD i []).length : Int) = d + 1)).map Int.ofNat

/-- the sum of the stalks of a dimension -/
def sumD (c : List Sim) (st : Sim) (d : Int) (k : Nat) : Int := (((ofDim c d c.length).take k).map fun i => st.getD i.toNat 0).sum

end VeT

open Go Go.Proofs Ve
set_option linter.unusedVariables false
set_option linter.unusedSimpArgs false
namespace VeT

/-- the sum of a dimension's stalks -/
def SD (c : List Sim) (st : Sim) (d : Int) : Int := sumD c st d (ofDim c d c.length).length

/-- stalks -/
def SK (c : List Sim) (st : Sim) : Prop := st.length = c.length ∧ (∀ x ∈ st,0 ≤ x ∧ x ≤ 3) ∧ ∀ d : Nat,d < 4 → SD c st (d : Int) ≤ 32

/-! faces' indices -/
noncomputable def fIdx (c : List Sim) (k : Nat) : List Int := (faces (c.getD k [])).map (findI c)

theorem findI_lt {c : List Sim} {s : Sim} : findI c s < c.length ∧ -1 ≤ findI c s := by
  unfold findI idxf
  cases h : c.findIdx? (fun x => pb (x = s)) with
  | none => simp only [o2i]; omega
  | some k =>
    rw [List.findIdx?_eq_some_iff_getElem] at h
    obtain ⟨h,_⟩ := h
    simp only [o2i]; omega

theorem fIdx_length {c : List Sim} {k : Nat} : (fIdx c k).length = if 1 < (c.getD k []).length then (c.getD k []).length else 0 := by
  unfold fIdx faces
  rw [List.length_map]
  split <;> simp

theorem fIdx_mem {c : List Sim} (h : VC c) {k : Nat} (hk : k < c.length) {x : Int} (hx : x ∈ fIdx c k) : 0 ≤ x ∧ x < c.length := by
  unfold fIdx at hx
  rw [List.mem_map] at hx
  obtain ⟨f,hf,rfl⟩ := hx
  exact ⟨findI_nonneg.2 (h.2.2.2 k hk f hf),findI_lt.1⟩

/-! arrows -/
abbrev Arw := Int × Int × Int × Unit
noncomputable def rowA (c : List Sim) (k i : Nat) : List Arw := (List.range i).map fun (j : Nat) => ((k : Int),(j : Int),(fIdx c k).getD j 0,())
noncomputable def arrs (c : List Sim) : Nat → List Arw
  | 0 => []
  | k + 1 => arrs c k ++ rowA c k (fIdx c k).length
noncomputable def plc (c : List Sim) (k : Nat) : Nat := (arrs c k).length

theorem rowA_length {c : List Sim} {k i : Nat} : (rowA c k i).length = i := by simp [rowA]

theorem plc_succ {c : List Sim} {k : Nat} : plc c (k + 1) = plc c k + (fIdx c k).length := by
  unfold plc; rw [arrs,List.length_append,rowA_length]

theorem VC.len4 {c : List Sim} (h : VC c) {k : Nat} (hk : k < c.length) : (c.getD k []).length ≤ 4 := (h.2.1 k hk).2.1

theorem VC.fIdx4 {c : List Sim} (h : VC c) {k : Nat} (hk : k < c.length) : (fIdx c k).length ≤ 4 := by
  have := h.len4 hk
  rw [fIdx_length]; split <;> omega

theorem VC.plc {c : List Sim} (h : VC c) : ∀ {k : Nat},k ≤ c.length → plc c k ≤ 4 * k
  | 0,_ => by simp [VeT.plc,arrs]
  | k + 1,hk => by
    have h1 := h.plc (k := k) (by omega)
    have h2 := h.fIdx4 (k := k) (by omega)
    rw [plc_succ]; omega

theorem arrs_get {c : List Sim} : ∀ {n k i : Nat},k < n → i < (fIdx c k).length → (arrs c n)[plc c k + i]? = some ((k : Int),(i : Int),(fIdx c k).getD i 0,())
  | 0,_,_,h,_ => by omega
  | n + 1,k,i,h,hi => by
    rw [arrs]
    by_cases hk : k < n
    · have := arrs_get hk hi
      have hl := (List.getElem?_eq_some_iff.1 this).1
      rw [List.getElem?_append_left hl]; exact this
    · obtain rfl : k = n := by omega
      rw [List.getElem?_append_right (by unfold plc; omega)]
      rw [show plc c k + i - (arrs c k).length = i by unfold plc; omega]
      simp [rowA,hi]

end VeT

open Go Go.Proofs Ve
set_option linter.unusedVariables false
set_option linter.unusedSimpArgs false
namespace VeT

def mz : Mat := (0,0,0,[],())
/-- the map at a face -/
def QB (p : Int) (st : Sim) (ms : List Mat) (t k : Nat) (f : Int) : Prop := Bt (ms.getD t mz) p (st.getD f.toNat 0) (st.getD k 0)

/-- valid sheaves -/
def VS (c : List Sim) (p : Int) (st : Sim) (ms : List Mat) : Prop := VC c ∧ Pr p ∧ SK c st ∧ plc c c.length = ms.length ∧ ∀ k,k < c.length → ∀ i,i < (fIdx c k).length → QB p st ms (plc c k + i) k ((fIdx c k).getD i 0)

end VeT

open Go Go.Proofs Ve
set_option linter.unusedVariables false
set_option linter.unusedSimpArgs false
namespace VeT

end VeT

open Go Go.Proofs Ve
set_option linter.unusedVariables false
set_option linter.unusedSimpArgs false
namespace VeT

theorem Clone_ret (s : Sim) (hs : s.length ≤ 1048576) : Ret E n_Z42 [dL s] ⟨o_Z42,(s,())⟩ := by
  refine ret_of ?_
  simp only [run_Z42,Z42.ev,Z42.j0_eq _ mk_ok,cond_true,cond_false]
  have h : Ev fun φ => (Option.bind (chk (decide ((List.length ([] : List Int) + List.length s) * 8 ≤ 70368744177664))) fun _ => some (⟨o_Z42,((([] : List Int) ++ s),())⟩ : Dv)) = some ⟨o_Z42,(s,())⟩ :=
    ev_chk (by simp; omega) (ev_some rfl)
  cases s with
  | nil => exact ev_t rfl (ev_both ev_rfl h)
  | cons a s => exact ev_f rfl h

end VeT

open Go Go.Proofs Ve
set_option linter.unusedVariables false
set_option linter.unusedSimpArgs false
namespace VeT

theorem VM.nat {m : Mat} (h : VM m) : ∃ R K : Nat,m = (m.1,(R : Int),(K : Int),m.2.2.2.1,()) ∧ R ≤ 32 ∧ K ≤ 32 ∧ m.2.2.2.1.length = R * K := by
  obtain ⟨p,r,k,c,⟨⟩⟩ := m
  obtain ⟨_,h2,h3,h4,_⟩ := h
  simp only at h2 h3 h4
  obtain ⟨R,rfl⟩ := Int.eq_ofNat_of_zero_le h2.1
  obtain ⟨K,rfl⟩ := Int.eq_ofNat_of_zero_le h3.1
  refine ⟨R,K,rfl,by omega,by omega,?_⟩
  rw [cast_mul] at h4; simp only; omega

end VeT

open Go Go.Proofs Ve
set_option linter.unusedVariables false
set_option linter.unusedSimpArgs false
namespace VeT

theorem EqualP_ret (a b : Sim) (ha : a.length ≤ 1048576) : Ret E n_Z52 [dL a,dL b] ⟨o_Z52,(pb (a = b),())⟩ := by
  refine ret_of ?_
  simp only [run_Z52,Z52.ev]
  refine ev_b (fun h => ev_some ?_) fun h => ?_
  · have h : (a.length : Int) ≠ b.length := by simpa using h
    rw [pb_false fun e => h (by rw [e])]
  · have h : (a.length : Int) = b.length := by simpa using h
    refine Ev.start (p := fun φ n => Z52.l0 (mkR (run E (φ 0))) (φ 0) n a b (a.length : Int) 0 = _) 1 ?_ (fun _ _ _ h => h)
    refine (all_pb 1 (L := fun φ n k => Z52.l0 (mkR (run E (φ 0))) (φ 0) n a b (a.length : Int) k) (len := a.length) 0 (by omega) (fun j => a.getD j 0 = b.getD j 0) (fun b => some ⟨o_Z52,(b,())⟩) (fun _ _ _ _ => rfl) (fun k h1 h2 hP _ => ?_) (fun k r h1 h2 hP _ ih => ?_) (fun _ => ?_)).to ?_
    · simp only [Z52.l0_succ _ mk_ok]
      have hb : k < b.length := by omega
      rw [getD_lt h2,getD_lt hb] at hP
      exact ev_t (decide_eq_true (by omega)) (ev_bind (idx_lt h2) (ev_bind (idx_lt hb) (ev_t (by simpa using hP) ev_rfl)))
    · simp only [Z52.l0_succ _ mk_ok]
      have hb : k < b.length := by omega
      rw [getD_lt h2,getD_lt hb] at hP
      refine ev_t (decide_eq_true (by omega)) (ev_bind (idx_lt h2) (ev_bind (idx_lt hb) (ev_f (by simpa using hP) ?_)))
      rw [w64_succ (by omega)]; exact ih
    · simp only [Z52.l0_succ _ mk_ok]
      exact ev_f (decide_eq_false (by omega)) ev_rfl
    · refine congrArg (fun b : Bool => some (⟨o_Z52,(b,())⟩ : Dv)) (pb_congr ⟨fun hh => List.ext_getElem (by omega) fun j h1 h2 => ?_,fun hh j _ _ => by rw [hh]⟩)
      have := hh j (by omega) h1
      rwa [getD_lt h1,getD_lt h2] at this

/-! the maps of a sheaf -/
noncomputable def mp (c : List Sim) (ms : List Mat) (k i : Nat) : Mat := ms.getD (plc c k + i) mz

noncomputable def fc (c : List Sim) (k i : Nat) : Nat := ((fIdx c k).getD i 0).toNat

theorem findI_get {c : List Sim} {s : Sim} (h : s ∈ c) : c.getD (findI c s).toNat [] = s := by
  have h0 := findI_nonneg.2 h
  unfold findI idxf at h0 ⊢
  cases hf : c.findIdx? (fun x => pb (x = s)) with
  | none => rw [hf] at h0; simp [o2i] at h0
  | some k =>
    rw [List.findIdx?_eq_some_iff_getElem] at hf
    obtain ⟨hk,hp,_⟩ := hf
    simp only [o2i,Int.toNat_natCast]
    rw [getD_lt hk]; exact pb_iff.1 hp

theorem fc_get {c : List Sim} (h : VC c) {k i : Nat} (hk : k < c.length) (hi : i < (fIdx c k).length) : idx? (fIdx c k) (i : Int) = some ((fc c k i : Nat) : Int) ∧ fc c k i < c.length ∧ c.getD (fc c k i) [] = (c.getD k []).eraseIdx i := by
  have hm := fIdx_mem h hk (List.getElem_mem hi)
  have hl := fIdx_length (c := c) (k := k)
  have h1 : 1 < (c.getD k []).length := Classical.byContradiction fun hn => by rw [if_neg hn] at hl; omega
  rw [if_pos h1] at hl
  have hfc : (fIdx c k)[i] = findI c ((c.getD k []).eraseIdx i) := by
    have : (fIdx c k)[i]? = some (findI c ((c.getD k []).eraseIdx i)) := by
      unfold fIdx faces
      rw [if_pos h1,List.map_map,List.getElem?_map,List.getElem?_range (by omega)]; rfl
    rw [List.getElem?_eq_getElem hi] at this
    exact Option.some.inj this
  have hin : (c.getD k []).eraseIdx i ∈ c := h.2.2.2 k hk _ (faces_mem.2 ⟨h1,i,by omega,rfl⟩)
  unfold fc
  rw [getD_lt hi]
  refine ⟨?_,by omega,?_⟩
  · rw [idx_lt hi]; congr 1; omega
  · rw [hfc]; exact findI_get hin

theorem VS.map {c : List Sim} {p : Int} {st : Sim} {ms : List Mat} (h : VS c p st ms) {k i : Nat} (hk : k < c.length) (hi : i < (fIdx c k).length) : plc c k + i < ms.length ∧ Bt (mp c ms k i) p (st.getD (fc c k i) 0) (st.getD k 0) := by
  have hg := arrs_get hk hi
  have hlt := (List.getElem?_eq_some_iff.1 hg).1
  exact ⟨by rw [← h.2.2.2.1]; exact hlt,h.2.2.2.2 k hk i hi⟩

structure Sq (c : List Sim) (p : Int) (st : Sim) (ms : List Mat) (k i j : Nat) : Prop where
  kl : k < c.length
  n3 : 3 ≤ (c.getD k []).length
  il : i < (c.getD k []).length
  jl : j + 1 < (c.getD k []).length
  v : VS c p st ms

theorem Sq.hi {c p st ms k i j} (h : Sq c p st ms k i j) : i < (fIdx c k).length := by
  have := h.n3; have := h.il
  rw [fIdx_length,if_pos (by omega)]; exact this

theorem Sq.hj {c p st ms k i j} (h : Sq c p st ms k i j) : j < (fIdx c (fc c k i)).length := by
  have h1 := h.n3; have h2 := h.il; have h3 := h.jl
  have e := (fc_get h.v.1 h.kl h.hi).2.2
  rw [fIdx_length,e,List.length_eraseIdx,if_pos h2,if_pos (by omega)]; omega

end VeT
