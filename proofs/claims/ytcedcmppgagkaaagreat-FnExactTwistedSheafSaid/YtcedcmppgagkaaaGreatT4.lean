import Derived.Test.YtcedcmppgagkaaaGreatT3
import Derived.Test.YtcedcmppgagkaaaGreatV2
import Derived.Deep.QuietTactic
import Derived.BigQuiet
import Derived.RegionTactic
import Derived.Deep.RegionWith
import Derived.Shelf.SlSortCmp.Whole1
import Derived.Shelf.SlSortCmp.NoneTotal
import Derived.Ground.SlsfProg
import Derived.Test.YtcedcmppgagkaaaGreatProg
import Derived.KernelRfl
import Derived.WalkKit
import Derived.Lib.Walk
import Derived.Lib.SliceRun
import Derived.Lib.AppendZerosOnto
set_option linter.unusedVariables false
set_option linter.unusedSimpArgs false
set_option linter.unusedVariables false
set_option linter.unusedSimpArgs false
namespace Go.Proofs
open Go.Shelf
def Tryz.sortf138_ren : Go.Shelf.Ren := ⟨fun | 6 => 138 | 15 => 165 | 14 => 164 | 28 => 195 | 29 => 196 | 20 => 187 | 21 => 188 | 22 => 189 | 23 => 190 | 24 => 191 | 25 => 192 | 26 => 193 | 27 => 194 | 46 => 203 | 47 => 204 | 48 => 205 | 49 => 206 | 50 => 207 | 57 => 211 | n => n, fun | 22 => 22 | 24 => 27 | 25 => 116 | 3 => 3 | 39 => 150 | 0 => 0 | 53 => 183 | 55 => 185 | 4 => 4 | 46 => 177 | 45 => 176 | 50 => 128 | 5 => 5 | 9 => 9 | 66 => 190 | 70 => 194 | 76 => 196 | 77 => 197 | n => n, fun | n => n⟩
theorem Tryz.sortf138 : Go.Proofs.SlLaysF.n6 Tryz.prog Tryz.sortf138_ren := {
  mixed := by kernel_rfl
  f6 := ⟨Tryz.f138.name, by decide, Tryz.func138.trans (congrArg some (by kernel_rfl))⟩
  f14 := ⟨Tryz.f164.name, by decide, Tryz.func164.trans (congrArg some (by kernel_rfl))⟩
  f15 := Tryz.func165.trans (congrArg some (by kernel_rfl))
  f20 := ⟨Tryz.f187.name, by decide, Tryz.func187.trans (congrArg some (by kernel_rfl))⟩
  f21 := ⟨Tryz.f188.name, by decide, Tryz.func188.trans (congrArg some (by kernel_rfl))⟩
  f22 := ⟨Tryz.f189.name, by decide, Tryz.func189.trans (congrArg some (by kernel_rfl))⟩
  f23 := ⟨Tryz.f190.name, by decide, Tryz.func190.trans (congrArg some (by kernel_rfl))⟩
  f24 := ⟨Tryz.f191.name, by decide, Tryz.func191.trans (congrArg some (by kernel_rfl))⟩
  f25 := ⟨Tryz.f192.name, by decide, Tryz.func192.trans (congrArg some (by kernel_rfl))⟩
  f26 := ⟨Tryz.f193.name, by decide, Tryz.func193.trans (congrArg some (by kernel_rfl))⟩
  f27 := ⟨Tryz.f194.name, by decide, Tryz.func194.trans (congrArg some (by kernel_rfl))⟩
  f28 := Tryz.func195.trans (congrArg some (by kernel_rfl))
  f29 := Tryz.func196.trans (congrArg some (by kernel_rfl))
  f46 := ⟨Tryz.f203.name, by decide, Tryz.func203.trans (congrArg some (by kernel_rfl))⟩
  f47 := Tryz.func204.trans (congrArg some (by kernel_rfl))
  f48 := Tryz.func205.trans (congrArg some (by kernel_rfl))
  f49 := ⟨Tryz.f206.name, by decide, Tryz.func206.trans (congrArg some (by kernel_rfl))⟩
  f50 := ⟨Tryz.f207.name, by decide, Tryz.func207.trans (congrArg some (by kernel_rfl))⟩
  f57 := ⟨Tryz.f211.name, by decide, Tryz.func211.trans (congrArg some (by kernel_rfl))⟩
  t0 := Tryz.underlying0
  a0 := Tryz.isAgg0
  z0 := Tryz.sizeOf0
  v0 := Tryz.zeroValue0
  t3 := Tryz.underlying3
  a3 := Tryz.isAgg3
  z3 := Tryz.sizeOf3
  v3 := Tryz.zeroValue3
  t4 := Tryz.underlying4
  a4 := Tryz.isAgg4
  z4 := Tryz.sizeOf4
  v4 := Tryz.zeroValue4
  t5 := Tryz.underlying5
  a5 := Tryz.isAgg5
  z5 := Tryz.sizeOf5
  v5 := Tryz.zeroValue5
  t9 := Tryz.underlying9
  a9 := Tryz.isAgg9
  z9 := Tryz.sizeOf9
  v9 := Tryz.zeroValue9
  t22 := Tryz.underlying22
  a22 := Tryz.isAgg22
  z22 := Tryz.sizeOf22
  v22 := Tryz.zeroValue22
  a24 := Tryz.isAgg27
  z24 := Tryz.sizeOf27
  t25 := Tryz.underlying116
  a25 := Tryz.isAgg116
  z25 := Tryz.sizeOf116
  v25 := Tryz.zeroValue116
  t39 := Tryz.underlying150
  a39 := Tryz.isAgg150
  z39 := Tryz.sizeOf150
  v39 := Tryz.zeroValue150
  t45 := Tryz.underlying176
  a45 := Tryz.isAgg176
  z45 := Tryz.sizeOf176
  v45 := Tryz.zeroValue176
  t46 := Tryz.underlying177
  a46 := Tryz.isAgg177
  z46 := Tryz.sizeOf177
  v46 := Tryz.zeroValue177
  t50 := Tryz.underlying128
  a50 := Tryz.isAgg128
  z50 := Tryz.sizeOf128
  v50 := Tryz.zeroValue128
  t53 := Tryz.underlying183
  a53 := Tryz.isAgg183
  z53 := Tryz.sizeOf183
  v53 := Tryz.zeroValue183
  t55 := Tryz.underlying185
  a55 := Tryz.isAgg185
  z55 := Tryz.sizeOf185
  v55 := Tryz.zeroValue185
  t66 := Tryz.underlying190
  a66 := Tryz.isAgg190
  z66 := Tryz.sizeOf190
  v66 := Tryz.zeroValue190
  t70 := Tryz.underlying194
  a70 := Tryz.isAgg194
  z70 := Tryz.sizeOf194
  v70 := Tryz.zeroValue194
  t76 := Tryz.underlying196
  a76 := Tryz.isAgg196
  z76 := Tryz.sizeOf196
  v76 := Tryz.zeroValue196
  t77 := Tryz.underlying197
  a77 := Tryz.isAgg197
  z77 := Tryz.sizeOf197
  v77 := Tryz.zeroValue197 }
end Go.Proofs
namespace VeT
section
open Go Go.Proofs Go.RowKit Go.Lib
set_option maxHeartbeats 2000000 in
set_option maxRecDepth 100000 in
theorem mark48_walk (b n c : Nat) (A : Option Addr) (hA : 0 < n → A = some ⟨b, 0, none⟩) (hnc : n ≤ c) (hn : n ≤ 9223372036854775807) (Inv : Nat → Int → World → Prop) (k : Int) (w : World) (h0 : Inv 0 k w)
    (step : ∀ i k' wr, i < n → Inv i k' wr → ∃ u, wr.cell? ⟨b, i, none⟩ = some u ∧ Calls Tryz.prog 20 #[u, .int .i64 k'] wr fun e w' => ∃ k2, e = .returned (.int .i64 k2) ∧ Inv (i + 1) k2 w') :
    Calls Tryz.prog 48 #[.slice A n c, .int .i64 k] w fun e w' => ∃ k2, e = .returned (.int .i64 k2) ∧ Inv n k2 w' := by
  go_enter Tryz.func48, Tryz.ntmps48
  go_wp2
  go_loopw [1, 5] (fun kv iv wr => ∃ i : Nat, ∃ k' : Int, i ≤ n ∧ iv = .int .i64 i ∧ kv = .int .i64 k' ∧ Inv i k' wr) (fun _ iv _ => n - (RowKit.intOf iv).toNat)
  case atStart => exact ⟨0, k, Nat.zero_le _, rfl, rfl, h0⟩
  case round =>
    obtain ⟨i, k', hi, rfl, rfl, hInv⟩ := hrel
    by_cases hlt : i < n
    · obtain rfl := hA (by omega)
      obtain ⟨u, hu, hcall⟩ := step i k' _ hlt hInv
      go_wp2_with (go_at_call 20; refine hcall.mono ?_; rintro e w' ⟨k2, rfl, hI2⟩)
      go_roundw
      case rel => exact ⟨i + 1, k2, by omega, by simp, rfl, hI2⟩
      case measure => simp [RowKit.intOf]; omega
    · obtain rfl : i = n := by omega
      go_wp2
      go_ret
      exact ⟨k', rfl, hInv⟩
open Ve in
theorem mark48_contract {R : Run} (hR : ∀ args dv, R.r 20 args = some dv → Contract Tryz.prog ⟨[(false, 1), (false, 1)], [.io true, .imm], oM, [(false, 1)], [], []⟩ 20 args dv) {args : List Dv} {dv : Dv} (h : pMarkSS 20 R args = some dv) :
    Contract Tryz.prog ⟨[(false, 1), (false, 1)], [.io true, .imm], .cons tI (.cons (.sl tL) .nil), [(false, 1)], [], []⟩ 48 args dv :=
  mark_contract mark48_walk hR h

set_option maxHeartbeats 4000000 in
set_option maxRecDepth 100000 in
theorem mark49_walk (b n c : Nat) (A : Option Addr) (hA : 0 < n → A = some ⟨b, 0, none⟩) (hnc : n ≤ c) (hn : n ≤ 9223372036854775807) (Inv : Nat → Int → World → Prop) (k : Int) (w : World) (h0 : Inv 0 k w)
    (hk : ∀ i k' wr, i < n → Inv i k' wr → 0 ≤ k' ∧ k' ≤ 4611686018427387904)
    (step : ∀ i k' wr, i < n → Inv i k' wr → ∃ v0 v1 v2 u, wr.cell? ⟨b, i * 4, none⟩ = some v0 ∧ wr.cell? ⟨b, i * 4 + 1, none⟩ = some v1 ∧ wr.cell? ⟨b, i * 4 + 2, none⟩ = some v2 ∧ wr.cell? ⟨b, i * 4 + 3, none⟩ = some u ∧
      wr.frozen? ⟨b, i * 4, none⟩ = false ∧ wr.frozen? ⟨b, i * 4 + 1, none⟩ = false ∧ wr.frozen? ⟨b, i * 4 + 2, none⟩ = false ∧
      Calls Tryz.prog 20 #[u, .int .i64 (k' + 1 + 1 + 1)] (((wr.setCell ⟨b, i * 4, none⟩ (.int .i64 k')).setCell ⟨b, i * 4 + 1, none⟩ (.int .i64 (k' + 1))).setCell ⟨b, i * 4 + 2, none⟩ (.int .i64 (k' + 1 + 1))) fun e w' => ∃ k2, e = .returned (.int .i64 k2) ∧ Inv (i + 1) k2 w') :
    Calls Tryz.prog 49 #[.slice A n c, .int .i64 k] w fun e w' => ∃ k2, e = .returned (.int .i64 k2) ∧ Inv n k2 w' := by
  go_enter Tryz.func49, Tryz.ntmps49
  go_wp2
  go_loopw [1, 5] (fun kv iv wr => ∃ i : Nat, ∃ k' : Int, i ≤ n ∧ iv = .int .i64 i ∧ kv = .int .i64 k' ∧ Inv i k' wr) (fun _ iv _ => n - (RowKit.intOf iv).toNat)
  case atStart => exact ⟨0, k, Nat.zero_le _, rfl, rfl, h0⟩
  case round =>
    obtain ⟨i, k', hi, rfl, rfl, hInv⟩ := hrel
    by_cases hlt : i < n
    · obtain rfl := hA (by omega)
      obtain ⟨v0, v1, v2, u, c0, c1, c2, c3, f0, f1, f2, hcall⟩ := step i k' _ hlt hInv
      have hkb := hk i k' _ hlt hInv
      have w1 : wrap64 (k' + 1) = k' + 1 := by unfold wrap64; omega
      have w2 : wrap64 (k' + 1 + 1) = k' + 1 + 1 := by unfold wrap64; omega
      have w3 : wrap64 (k' + 1 + 1 + 1) = k' + 1 + 1 + 1 := by unfold wrap64; omega
      go_wp2_with (go_at_call 20; refine hcall.mono ?_; rintro e w' ⟨k2, rfl, hI2⟩)
      go_roundw
      case rel => exact ⟨i + 1, k2, by omega, by simp, rfl, hI2⟩
      case measure => simp [RowKit.intOf]; omega
    · obtain rfl : i = n := by omega
      go_wp2
      go_ret
      exact ⟨k', rfl, hInv⟩
open Ve in
theorem mark49_contract {R : Run} (hR : ∀ args dv, R.r 20 args = some dv → Contract Tryz.prog ⟨[(false, 1), (false, 1)], [.io true, .imm], oM, [(false, 1)], [], []⟩ 20 args dv) {args : List Dv} {dv : Dv} (h : pMarkMS 20 R args = some dv) :
    Contract Tryz.prog ⟨[(false, 1), (false, 1)], [.io true, .imm], .cons tI (.cons (.sl tM) .nil), [(false, 1)], [], []⟩ 49 args dv :=
  markM_contract mark49_walk hR h

open Ve in
theorem sortf138_contract {R : Run} (hR : ∀ args dv, R.r 95 args = some dv → Contract Tryz.prog ⟨[(false, 1), (false, 1)], [], .cons tI .nil, [(false, 1)], [], []⟩ 95 args dv) {args : List Dv} {dv : Dv} (h : pSortF 95 R args = some dv) :
    Contract Tryz.prog ⟨[(false, 1), (false, 1)], [.io true, .imm], .cons tLL .nil, [], [], []⟩ 138 args dv :=
  sortF_contract (fun enc h1c cf hO blk cap d w a b c e => Any.slices_SortFunc Tryz.sortf138 enc h1c cf hO 95 #[] blk 0 cap d w (enters_of Tryz.func95 (by kernel_rfl) rfl) a b c e)
    (fun A cap fv w => (AnyF.slices_SortFunc_none { Tryz.sortf138 with } A cap fv w).mono fun e w' ⟨h, hw⟩ => ⟨h, by rw [hw], by rw [hw]; exact Kin.refl _⟩) hR h

set_option maxHeartbeats 4000000 in
set_option maxRecDepth 100000 in
theorem compf139_walk (b n c : Nat) (hn2 : 2 ≤ n) (hnc : n ≤ c) (hn : n ≤ 4611686018427387904) (Inv : Nat → World → Prop) (w : World) (h0 : Inv 1 w) (hd : ∀ k w', Inv k w' → Inv k w'.drew)
    (step : ∀ k w', 1 ≤ k → k < n → Inv k w' → ∃ u v, w'.cell? ⟨b, k, none⟩ = some u ∧ w'.cell? ⟨b, k - 1, none⟩ = some v ∧ Calls Tryz.prog 140 #[u, v] w' fun e w'' => e = .returned (.bool false) ∧ Inv (k + 1) w'') :
    Calls Tryz.prog 139 #[.slice (some ⟨b, 0, none⟩) n c, .func (.func 140) #[] #[]] w fun e w' => e = .returned (.slice (some ⟨b, 0, none⟩) n c) ∧ Inv n w' := by
  have h1 : ¬ ((n : Int) < 2) := by omega
  go_enter Tryz.func139, Tryz.ntmps139
  go_wp2
  go_loopw [5] (fun kv wr => ∃ k : Nat, 1 ≤ k ∧ k ≤ n ∧ kv = .int .i64 k ∧ Inv k wr) (fun kv _ => n - (RowKit.intOf kv).toNat)
  case atStart => exact ⟨1, Nat.le_refl _, by omega, rfl, h0⟩
  case round =>
    obtain ⟨k, hk1, hkn, rfl, hInv⟩ := hrel
    by_cases hlt : k < n
    · have hI2 := hd _ _ hInv
      obtain ⟨u, v, hu, hv, hcall⟩ := step k _ hk1 hlt hI2
      go_wp2
      have hw : IntKind.i64.wrap ((k : Int) - 1) = ((k - 1 : Nat) : Int) := by first | go_num | (simp [IntKind.wrap, IntKind.bits]; omega)
      go_region_with (go_at_call 140; refine (hcall).mono ?_; rintro e w' ⟨rfl, hI3⟩)
      all_goals (go_wp2; go_roundw)
      all_goals first
        | exact ⟨k + 1, by omega, by omega, by simp, hI3⟩
        | (simp [RowKit.intOf]; omega)
    · obtain rfl : k = n := by omega
      go_wp2
      go_ret
      exact ⟨rfl, hInv⟩
theorem compf139_short (A : Option Addr) (n c : Nat) (hn2 : n < 2) (fv : Value) (w : World) :
    Calls Tryz.prog 139 #[.slice A n c, fv] w fun e w' => e = .returned (.slice A n c) ∧ w' = w := by
  have h1 : (n : Int) < 2 := by omega
  go_enter Tryz.func139, Tryz.ntmps139
  go_wp2
  go_ret
  exact ⟨rfl, rfl⟩
open Ve in
theorem compf139_contract {R : Run} (hR : ∀ args dv, R.r 140 args = some dv → Contract Tryz.prog ⟨[(false, 1), (false, 1)], [], .cons .bool .nil, [(false, 1)], [], []⟩ 140 args dv) {args : List Dv} {dv : Dv} (h : pCompF 140 R args = some dv) :
    Contract Tryz.prog ⟨[(false, 1), (false, 1)], [.take true, .imm], .cons tLL .nil, [(false, 1)], [.deep], []⟩ 139 args dv :=
  compF_contract compf139_walk compf139_short hR h

set_option maxHeartbeats 2000000 in
set_option maxRecDepth 100000 in
theorem grow163_room (base : Option Addr) (l c n : Nat) (w : World) (hlc : l ≤ c) (hc63 : c ≤ 9223372036854775807) (hn63 : n ≤ 9223372036854775807) (hroom : l + n ≤ c) :
    Calls Tryz.prog 163 #[.slice base l c, .int .i64 n] w fun e w' => e = .returned (.slice base l c) ∧ w' = w := by
  have h1 : ¬ ((n : Int) < 0) := by omega
  have h2 : wrap64 ((c : Int) - (l : Int)) = (c : Int) - (l : Int) := by unfold wrap64; omega
  have h3 : wrap64 ((n : Int) - ((c : Int) - (l : Int))) = (n : Int) - ((c : Int) - (l : Int)) := by unfold wrap64; omega
  have h4 : ¬ ((n : Int) - ((c : Int) - (l : Int)) > 0) := by omega
  go_enter Tryz.func163, Tryz.ntmps163
  go_wp2
  go_ret
  exact ⟨rfl, rfl⟩

set_option maxHeartbeats 4000000 in
set_option maxRecDepth 100000 in
theorem grow163_grow (i0 : TypeInfo) (z : Value) (hi0 : Tryz.prog.info? 2 = some i0) (hz0 : i0.zero = some z) (hs0 : 0 < i0.size)
    (base : Option Addr) (l c n : Nat) (cs : List Value) (w : World) (hlc : l ≤ c) (hroom : c < l + n) (hbig : (l + n) * i0.bytes ≤ 140737488355328) (h63 : l + n ≤ 4611686018427387904)
    (hcl : cs.length = c * i0.size) (hnil : base = none → c = 0) (hcs : ∀ a, base = some a → ∀ (j : Nat) v, cs[j]? = some v → w.cell? (a.add j) = some v) :
    Calls Tryz.prog 163 #[.slice base l c, .int .i64 n] w fun e w' =>
      e = .returned (.slice (some ⟨w.heap.size, 0, none⟩) l (grownCap w (l + n) c 2)) ∧
      w' = w.drew.alloc (.cells (cs.toArray ++ Builtin.zeroCells z.cells (l + n - c) ++ Builtin.zeroCells z.cells (grownCap w (l + n) c 2 - (l + n))) 2) := by
  have h1 : ¬ ((n : Int) < 0) := by omega
  have h2 : wrap64 ((c : Int) - (l : Int)) = (c : Int) - (l : Int) := by unfold wrap64; omega
  have h3 : wrap64 ((n : Int) - ((c : Int) - (l : Int))) = (n : Int) - ((c : Int) - (l : Int)) := by unfold wrap64; omega
  have h4 : (n : Int) - ((c : Int) - (l : Int)) > 0 := by omega
  have z25 : ∀ w, (Go.sizeOf 2).run Tryz.prog w = .ok i0.size w := fun w => by simp [Go.sizeOf, typeInfo, hi0]
  have hck : c + (l + n - c) = l + n := by omega
  have hold : (Builtin.firstCells i0.size c (.slice base c c)).run Tryz.prog w.drew = .ok cs.toArray w.drew := by
    cases base with
    | none =>
      have h0 := hnil rfl
      subst h0
      have hc0 : cs = [] := List.length_eq_zero_iff.1 (by simpa using hcl)
      rw [hc0]
      exact run_firstCells_none w.drew i0.size 0 0 0
    | some a => exact run_firstCells_some w.drew i0.size c a c c cs hcl (fun j v hj => hcs a rfl j v hj)
  have hrz : ∀ ty, (Builtin.append_ #[27, 3] ty #[.slice base c c, .int .i64 ((n : Int) - ((c : Int) - (l : Int)))]).run Tryz.prog w =
      .ok (.slice (some ⟨w.heap.size, 0, none⟩) (l + n) (grownCap w (l + n) c 2)) (w.drew.alloc (.cells (cs.toArray ++ Builtin.zeroCells z.cells (l + n - c) ++ Builtin.zeroCells z.cells (grownCap w (l + n) c 2 - (l + n))) 2)) := fun ty => by
    have h := Lib.run_append_grow_zeros w 27 3 ty 2 i0 z .i64 .i64 Tryz.underlying27 Tryz.underlying3 hi0 hz0 base c c cs hold (l + n - c) (by omega) hs0 (by omega) (by omega)
      (by have : (l + n - c) * i0.bytes ≤ (l + n) * i0.bytes := Nat.mul_le_mul_right _ (by omega)
          omega)
      (by rw [hck]; exact growslice_fits hroom hbig)
    rw [hck] at h
    rw [show (n : Int) - ((c : Int) - (l : Int)) = ((l + n - c : Nat) : Int) by omega]
    exact h
  have hGn : l + n ≤ grownCap w (l + n) c 2 := grownCap_ge w _ _ _
  obtain ⟨G, hG⟩ : ∃ G, G = grownCap w (l + n) c 2 := ⟨_, rfl⟩
  rw [← hG] at hrz hGn ⊢
  have hG63 : G ≤ 9223372036854775807 := by
    have := grownCap_le_maxLen w (l + n) c 2 (by unfold maxLen; omega)
    rw [← hG] at this
    unfold maxLen at this
    omega
  clear hold hck hG hcs hcl
  go_enter Tryz.func163, Tryz.ntmps163
  cases base with
  | none =>
    have h0 := hnil rfl
    subst h0
    obtain rfl : l = 0 := by omega
    go_wp2_with (at_builtin; refine Lib.wpList_append_run _ rfl _ _ _ _ rfl _ _ rfl rfl _ _ (hrz _) ?_)
    all_goals (go_ret; exact ⟨rfl, rfl⟩)
  | some a =>
    obtain ⟨ab, ao, asp⟩ := a
    go_wp2_with (at_builtin; refine Lib.wpList_append_run _ rfl _ _ _ _ rfl _ _ rfl rfl _ _ (hrz _) ?_)
    all_goals (go_ret; exact ⟨rfl, rfl⟩)
theorem grow163_info : (Tryz.prog.info? 2).any (fun i => i.size == Ve.Ty.size yI && i.zero.any (fun z => z.cells.size == Ve.Ty.size yI) && decide (i.bytes ≤ 64 * Ve.Ty.size yI) && decide (0 < i.bytes) && decide (0 < Ve.Ty.size yI)) = true := by kernel_rfl
open Ve in
theorem grow163_contract (R : Run) {args : List Dv} {dv : Dv} (h : pGrow yI R args = some dv) :
    Contract Tryz.prog ⟨[(false, 1), (false, 1)], [.take true, .imm], .cons yL .nil, [(false, 1)], [.deep], []⟩ 163 args dv := by
  have hi := grow163_info
  cases hi0 : Tryz.prog.info? 2 with
  | none => rw [hi0] at hi; cases hi
  | some i0 =>
    rw [hi0] at hi
    simp only [Option.any_some, Bool.and_eq_true, decide_eq_true_eq, beq_iff_eq] at hi
    obtain ⟨⟨⟨⟨h1, h2⟩, h3⟩, h4⟩, h5⟩ := hi
    cases hz : i0.zero with
    | none => rw [hz] at h2; cases h2
    | some z =>
      rw [hz] at h2
      exact grow_contract h1 (by simpa using h2) h5 h3 h4 grow163_room (fun base l c n cs w a1 a2 a3 a4 a5 a6 a7 => grow163_grow i0 z hi0 hz (by rw [h1]; exact h5) base l c n cs w a1 a2 a3 a4 a5 a6 a7) R h

end
section
open Go Ve
theorem primL_eq : primL = (List.range 228).map fun i => bif Nat.beq i 48 then some (pMarkSS n_Z50) else bif Nat.beq i 49 then some (pMarkMS n_Z50) else bif Nat.beq i 138 then some (pSortF n_Z16) else bif Nat.beq i 139 then some (pCompF n_Z72) else bif Nat.beq i 163 then some (pGrow yI) else none := by kernel_rfl
theorem prims_ok : ∀ f p, E.prim f = some p → ∀ r, RunOk E (mkR r) → ∀ args dv sg, E.sig f = some sg → p (mkR r) args = some dv → Contract E.P sg f args dv := by
  intro f p hp r hr args dv sg hsg h
  have hp : primL.getD f none = some p := hp
  rw [primL_eq, List.getD_eq_getElem?_getD, List.getElem?_map] at hp
  by_cases hf : f < 228
  · rw [List.getElem?_range hf] at hp
    simp only [Option.map_some, Option.getD_some] at hp
    by_cases h48 : f = 48
    · subst h48
      obtain rfl : (pMarkSS n_Z50) = p := Option.some.inj hp
      obtain rfl : sg_Z51 = sg := Option.some.inj (sig_laws_markInt64SS_eq.symm.trans hsg)
      exact mark48_contract (fun args dv h => hr _ args dv _ sig_laws_markInt64S_eq h) h
    rw [show Nat.beq f 48 = false from Bool.eq_false_iff.2 fun h => h48 (Nat.eq_of_beq_eq_true h), cond_false] at hp
    by_cases h49 : f = 49
    · subst h49
      obtain rfl : (pMarkMS n_Z50) = p := Option.some.inj hp
      obtain rfl : sg_Z52 = sg := Option.some.inj (sig_laws_markMatrixS_eq.symm.trans hsg)
      exact mark49_contract (fun args dv h => hr _ args dv _ sig_laws_markInt64S_eq h) h
    rw [show Nat.beq f 49 = false from Bool.eq_false_iff.2 fun h => h49 (Nat.eq_of_beq_eq_true h), cond_false] at hp
    by_cases h138 : f = 138
    · subst h138
      obtain rfl : (pSortF n_Z16) = p := Option.some.inj hp
      obtain rfl : sg_Z81 = sg := Option.some.inj (sig_slices_SortFunc_SSint64_Sint64_eq.symm.trans hsg)
      exact sortf138_contract (fun args dv h => hr _ args dv _ sig_impl_compareSimplices_eq h) h
    rw [show Nat.beq f 138 = false from Bool.eq_false_iff.2 fun h => h138 (Nat.eq_of_beq_eq_true h), cond_false] at hp
    by_cases h139 : f = 139
    · subst h139
      obtain rfl : (pCompF n_Z72) = p := Option.some.inj hp
      obtain rfl : sg_Z63 = sg := Option.some.inj (sig_slices_CompactFunc_SSint64_Sint64_eq.symm.trans hsg)
      exact compf139_contract (fun args dv h => hr _ args dv _ sig_slices_Equal_Sint64_int64_eq h) h
    rw [show Nat.beq f 139 = false from Bool.eq_false_iff.2 fun h => h139 (Nat.eq_of_beq_eq_true h), cond_false] at hp
    by_cases h163 : f = 163
    · subst h163
      obtain rfl : (pGrow yI) = p := Option.some.inj hp
      obtain rfl : sg_Z73 = sg := Option.some.inj (sig_slices_Grow_Sint64_int64_eq.symm.trans hsg)
      exact grow163_contract _ h
    rw [show Nat.beq f 163 = false from Bool.eq_false_iff.2 fun h => h163 (Nat.eq_of_beq_eq_true h), cond_false] at hp
    cases hp
  · rw [List.getElem?_eq_none (by simpa using hf)] at hp
    cases hp
end
end VeT

open Go Go.Proofs Ve
set_option linter.unusedVariables false
set_option linter.unusedSimpArgs false
namespace VeT

theorem szInt64S_ret (x : (List Int)) (l : Int) (hx : Wf yL x) (h0 : 0 ≤ l) (h1 : l ≤ 1048576) :
    ∃ r : Int, Ret E n_Z55 [⟨yL, x⟩, ⟨.int .i64, l⟩] ⟨o_Z55, (r, ())⟩ ∧ (0 ≤ r → r ≤ l ∧ Sm yL x) := by
  have hx1 : x.length ≤ maxLen := hx.1
  rw [maxLen_eq] at hx1
  have hw : w64 (l - x.length) = l - x.length := w64_small (by omega) (by omega)
  by_cases hc : l - (x.length : Int) < 0
  · refine ⟨-1, Evt.succ (Evt.of fun n => ?_), fun h => by omega⟩
    rw [run_Z55, Z55.ev, hw, decide_eq_true hc]; rfl
  · refine ⟨l - x.length, Evt.succ (Evt.of fun n => ?_), fun h => ⟨by omega, by omega, fun x _ => trivial⟩⟩
    rw [run_Z55, Z55.ev, hw, decide_eq_false hc]; rfl

theorem toInt64S_ret (x : (List Int)) (hx : Sm yL x) : Ret E n_Z58 [⟨yL, x⟩] ⟨o_Z58, (x, ())⟩ := by
  have hx1 : x.length ≤ 1048576 := hx.1
  have hl := fill_loop (a := x) (L := fun m n i o => Z58.l0 (mkR (run E m)) m n x i o) (z := List.replicate (Int.toNat (List.length x : Int)) (0 : Int)) (r := some ⟨o_Z58, (x, ())⟩) (by simp) (fun k o hk ho => by
      refine Evt.of fun m n => ?_
      show Z58.l0 _ _ _ _ _ _ = _
      rw [Z58.l0_succ _ mk_ok, decide_eq_true (show (k : Int) < x.length by omega), cond_true, idx_lt hk]
      simp only [Option.bind_some]
      rw [chk_true (by simp; omega), w64_succ (by omega), Int.toNat_natCast]) (Evt.of fun m n => by
      show Z58.l0 _ _ _ _ _ _ = _
      rw [Z58.l0_succ _ mk_ok, decide_eq_false (by omega), cond_false])
  refine Evt.succ (hl.mono fun n h => ?_)
  rw [run_Z58, Z58.ev, chk_true (by simp; omega)]
  exact h

theorem eqInt64S_ret (x y : (List Int)) (hx : Sm yL x) : ∃ b : Bool, Ret E n_Z39 [⟨yL, x⟩, ⟨yL, y⟩] ⟨o_Z39, (b, ())⟩ ∧ (b = true ↔ x = y) := by
  have hx1 : x.length ≤ 1048576 := hx.1
  by_cases hl : x.length = y.length
  · have hd : ((x.length : Int) != (y.length : Int)) = false := by simp [hl]
    obtain ⟨h1, h2⟩ := same_loop (a := x) (b := y) (L := fun m n i (_ : Unit) => Z39.l0 (mkR (run E m)) m n x y i) (fun u v => u = v) (rt := some ⟨o_Z39, (true, ())⟩) (rf := some ⟨o_Z39, (false, ())⟩) hl.symm
      (fun k h h' hne => Evt.of fun m n => by
      show Z39.l0 _ _ _ _ _ _ = _
      rw [Z39.l0_succ _ mk_ok, decide_eq_true (show (k : Int) < x.length by omega), cond_true, idx_lt h, idx_lt h']
      have : (x[k] != y[k]) = true := by simpa using hne
      simp only [Option.bind_some, this, cond_true])
      (fun k h h' he => Evt.of fun m n => by
      show Z39.l0 _ _ _ _ _ _ = _
      rw [Z39.l0_succ _ mk_ok, decide_eq_true (show (k : Int) < x.length by omega), cond_true, idx_lt h, idx_lt h']
      have : (x[k] != y[k]) = false := by simpa using he
      simp only [Option.bind_some, this, cond_false]
      rw [w64_succ (by omega)])
      (Evt.of fun m n => by
      show Z39.l0 _ _ _ _ _ _ = _
      rw [Z39.l0_succ _ mk_ok, decide_eq_false (by omega), cond_false])
    by_cases he : x = y
    · refine ⟨true, Evt.succ ((h1 (by subst he; intros; rfl)).mono fun n h => ?_), by simp [he]⟩
      rw [run_Z39, Z39.ev, hd, cond_false]
      exact h
    · refine ⟨false, Evt.succ ((h2 fun hh => he (List.ext_getElem hl hh)).mono fun n h => ?_), by simp [he]⟩
      rw [run_Z39, Z39.ev, hd, cond_false]
      exact h
  · have hd : ((x.length : Int) != (y.length : Int)) = true := by simp; omega
    refine ⟨false, Evt.succ (Evt.of fun n => ?_), ⟨fun h => (nomatch h), fun h => absurd (congrArg List.length h) hl⟩⟩
    rw [run_Z39, Z39.ev, hd, cond_true]

theorem szInt64SS_ret (x : vK) (l : Int) (hx : Wf yK x) (h0 : 0 ≤ l) (h1 : l ≤ 1048576) :
    ∃ r : Int, Ret E n_Z56 [⟨yK, x⟩, ⟨.int .i64, l⟩] ⟨o_Z56, (r, ())⟩ ∧ (0 ≤ r → r ≤ l ∧ Sm yK x) := by
  have hx1 : x.length ≤ maxLen := hx.1
  rw [maxLen_eq] at hx1
  have hw : w64 (l - x.length) = l - x.length := w64_small (by omega) (by omega)
  by_cases hc : l - (x.length : Int) < 0
  · refine ⟨-1, Evt.succ (Evt.of fun n => ?_), fun h => by omega⟩
    rw [run_Z56, Z56.ev, hw, decide_eq_true hc]; rfl
  · obtain ⟨r, hr, hs⟩ := sz_loop (xs := x) (L := fun m n i left => Z56.l0 (mkR (run E m)) m n x left i) (ret := fun r => some ⟨o_Z56, (r, ())⟩) (fun x => Sm yL x) (fun k left hk hl0 hl1 => by
      obtain ⟨r, hr, hs⟩ := szInt64S_ret x[k] left (hx.2 _ (List.getElem_mem hk)) hl0 hl1
      refine ⟨r, hs, hr.mono fun m h n => ?_⟩
      show Z56.l0 _ _ _ _ _ _ = _
      rw [Z56.l0_succ _ mk_ok, decide_eq_true (show (k : Int) < x.length by omega), cond_true, idx_lt hk]
      simp only [Option.bind_some, callT_of h]
      rw [w64_succ (by omega)]) (fun left => Evt.of fun m n => by
      show Z56.l0 _ _ _ _ _ _ = _
      rw [Z56.l0_succ _ mk_ok, decide_eq_false (by omega), cond_false]) (l - x.length) (by omega) (by omega)
    refine ⟨r, Evt.succ (hr.mono fun n h => ?_), fun h => ⟨by have := (hs h).1; omega, by omega, (hs h).2⟩⟩
    rw [run_Z56, Z56.ev, hw, decide_eq_false hc]
    exact h

theorem toInt64SS_ret (x : vK) (hx : Sm yK x) : Ret E n_Z59 [⟨yK, x⟩] ⟨o_Z59, (x, ())⟩ := by
  have hx1 : x.length ≤ 1048576 := hx.1
  have hl := fill_loop (a := x) (L := fun m n i o => Z59.l0 (mkR (run E m)) m n x i o) (z := List.replicate (Int.toNat (List.length x : Int)) ([] : List Int)) (r := some ⟨o_Z59, (x, ())⟩) (by simp) (fun k o hk ho => by
      have hr := toInt64S_ret x[k] (hx.2 _ (List.getElem_mem hk))
      refine hr.mono fun m h n => ?_
      show Z59.l0 _ _ _ _ _ _ = _
      rw [Z59.l0_succ _ mk_ok, decide_eq_true (show (k : Int) < x.length by omega), cond_true, idx_lt hk]
      simp only [Option.bind_some, callT_of h]
      rw [chk_true (by simp; omega), w64_succ (by omega), Int.toNat_natCast]) (Evt.of fun m n => by
      show Z59.l0 _ _ _ _ _ _ = _
      rw [Z59.l0_succ _ mk_ok, decide_eq_false (by omega), cond_false])
  refine Evt.succ (hl.mono fun n h => ?_)
  rw [run_Z59, Z59.ev, chk_true (by simp; omega)]
  exact h

theorem eqInt64SS_ret (x y : vK) (hx : Sm yK x) : ∃ b : Bool, Ret E n_Z40 [⟨yK, x⟩, ⟨yK, y⟩] ⟨o_Z40, (b, ())⟩ ∧ (b = true ↔ x = y) := by
  have hx1 : x.length ≤ 1048576 := hx.1
  by_cases hl : x.length = y.length
  · have hd : ((x.length : Int) != (y.length : Int)) = false := by simp [hl]
    obtain ⟨h1, h2⟩ := same_loop (a := x) (b := y) (L := fun m n i (_ : Unit) => Z40.l0 (mkR (run E m)) m n x y i) (fun u v => u = v) (rt := some ⟨o_Z40, (true, ())⟩) (rf := some ⟨o_Z40, (false, ())⟩) hl.symm
      (fun k h h' hne => by
      obtain ⟨b, hb, hbe⟩ := eqInt64S_ret x[k] y[k] (hx.2 _ (List.getElem_mem h))
      have hb0 : b = false := by cases b <;> simp_all
      subst hb0
      refine hb.mono fun m hm n => ?_
      show Z40.l0 _ _ _ _ _ _ = _
      rw [Z40.l0_succ _ mk_ok, decide_eq_true (show (k : Int) < x.length by omega), cond_true, idx_lt h, idx_lt h']
      simp only [Option.bind_some, callT_of hm, Bool.not_false, Bool.not_true, cond_true, cond_false])
      (fun k h h' he => by
      obtain ⟨b, hb, hbe⟩ := eqInt64S_ret x[k] y[k] (hx.2 _ (List.getElem_mem h))
      have hb0 : b = true := by cases b <;> simp_all
      subst hb0
      refine hb.mono fun m hm n => ?_
      show Z40.l0 _ _ _ _ _ _ = _
      rw [Z40.l0_succ _ mk_ok, decide_eq_true (show (k : Int) < x.length by omega), cond_true, idx_lt h, idx_lt h']
      simp only [Option.bind_some, callT_of hm, Bool.not_false, Bool.not_true, cond_true, cond_false]
      rw [w64_succ (by omega)])
      (Evt.of fun m n => by
      show Z40.l0 _ _ _ _ _ _ = _
      rw [Z40.l0_succ _ mk_ok, decide_eq_false (by omega), cond_false])
    by_cases he : x = y
    · refine ⟨true, Evt.succ ((h1 (by subst he; intros; rfl)).mono fun n h => ?_), by simp [he]⟩
      rw [run_Z40, Z40.ev, hd, cond_false]
      exact h
    · refine ⟨false, Evt.succ ((h2 fun hh => he (List.ext_getElem hl hh)).mono fun n h => ?_), by simp [he]⟩
      rw [run_Z40, Z40.ev, hd, cond_false]
      exact h
  · have hd : ((x.length : Int) != (y.length : Int)) = true := by simp; omega
    refine ⟨false, Evt.succ (Evt.of fun n => ?_), ⟨fun h => (nomatch h), fun h => absurd (congrArg List.length h) hl⟩⟩
    rw [run_Z40, Z40.ev, hd, cond_true]

theorem szComplex_ret (x : (vK × Unit)) (l : Int) (hx : Wf (.st (.cons yK .nil)) x) (h0 : 0 ≤ l) (h1 : l ≤ 1048576) :
    ∃ r : Int, Ret E n_Z54 [⟨yK, x.1⟩, ⟨.int .i64, l⟩] ⟨o_Z54, (r, ())⟩ ∧ (0 ≤ r → r ≤ l ∧ Sm (.st (.cons yK .nil)) x) := by
  obtain ⟨r0, hr0, hs0⟩ := szInt64SS_ret x.1 l hx.1 (by omega) (by omega)
  by_cases hc0 : r0 < 0
  · refine ⟨-1, Evt.succ (hr0.mono fun n e0 => ?_), fun h => by omega⟩
    rw [run_Z54, Z54.ev]
    simp only [Option.bind_some, cond_true, cond_false, callT_of e0, decide_eq_true hc0]
  have hb0 := hs0 (by omega)
  refine ⟨r0, Evt.succ (hr0.mono fun n e0 => ?_), fun h => ⟨by omega, ?_⟩⟩
  · skip
    rw [run_Z54, Z54.ev]
    simp only [Option.bind_some, cond_true, cond_false, callT_of e0, decide_eq_false hc0]
  · exact ⟨hb0.2, trivial⟩

theorem toComplex_ret (x : (vK × Unit)) (hx : Sm (.st (.cons yK .nil)) x) : Ret E n_Z57 [⟨yK, x.1⟩] ⟨o_Z57, x⟩ := by
  have hr0 := toInt64SS_ret x.1 hx.1
  refine Evt.succ (hr0.mono fun n e0 => ?_)
  rw [run_Z57, Z57.ev]
  simp only [Option.bind_some, callT_of e0]

theorem eqComplex_ret (x y : (vK × Unit)) (hx : Sm (.st (.cons yK .nil)) x) : ∃ b : Bool, Ret E n_Z38 [⟨yK, x.1⟩, ⟨yK, y.1⟩] ⟨o_Z38, (b, ())⟩ ∧ (b = true ↔ x = y) := by
  obtain ⟨b0, hr0, hb0⟩ := eqInt64SS_ret x.1 y.1 hx.1
  refine ⟨b0, Evt.succ (hr0.mono fun n e0 => ?_), ?_⟩
  · skip
    rw [run_Z38, Z38.ev]
    simp only [Option.bind_some, callT_of e0]
    clear hx hr0 e0 hb0
    cases b0 <;> rfl
  · obtain ⟨x0, _⟩ := x
    obtain ⟨y0, _⟩ := y
    simp only [Bool.and_eq_true, decide_eq_true_eq, hb0, Prod.mk.injEq, and_true]
    try simp only [and_assoc]

theorem eqMatrix_ret (x y : vM) (hx : Sm (.st yM) x) : ∃ b : Bool, Ret E n_Z41 [⟨yI, x.1⟩, ⟨yI, x.2.1⟩, ⟨yI, x.2.2.1⟩, ⟨yL, x.2.2.2.1⟩, ⟨yI, y.1⟩, ⟨yI, y.2.1⟩, ⟨yI, y.2.2.1⟩, ⟨yL, y.2.2.2.1⟩] ⟨o_Z41, (b, ())⟩ ∧ (b = true ↔ x = y) := by
  obtain ⟨b0, hr0, hb0⟩ := eqInt64S_ret x.2.2.2.1 y.2.2.2.1 hx.2.2.2.1
  refine ⟨decide (x.1 = y.1) && decide (x.2.1 = y.2.1) && decide (x.2.2.1 = y.2.2.1) && b0, Evt.succ (hr0.mono fun n e0 => ?_), ?_⟩
  · skip
    rw [run_Z41, Z41.ev]
    simp only [Option.bind_some, callT_of e0]
    simp only [show (x.1 != y.1) = !decide (x.1 = y.1) from rfl]
    generalize decide (x.1 = y.1) = d0
    simp only [show (x.2.1 != y.2.1) = !decide (x.2.1 = y.2.1) from rfl]
    generalize decide (x.2.1 = y.2.1) = d1
    simp only [show (x.2.2.1 != y.2.2.1) = !decide (x.2.2.1 = y.2.2.1) from rfl]
    generalize decide (x.2.2.1 = y.2.2.1) = d2
    clear hx hr0 e0 hb0
    cases d0 <;> cases d1 <;> cases d2 <;> cases b0 <;> rfl
  · obtain ⟨x0, x1, x2, x3, _⟩ := x
    obtain ⟨y0, y1, y2, y3, _⟩ := y
    simp only [Bool.and_eq_true, decide_eq_true_eq, hb0, Prod.mk.injEq, and_true]
    try simp only [and_assoc]

theorem eqMatrixS_ret (x y : vN) (hx : Sm yN x) : ∃ b : Bool, Ret E n_Z42 [⟨yN, x⟩, ⟨yN, y⟩] ⟨o_Z42, (b, ())⟩ ∧ (b = true ↔ x = y) := by
  have hx1 : x.length ≤ 1048576 := hx.1
  by_cases hl : x.length = y.length
  · have hd : ((x.length : Int) != (y.length : Int)) = false := by simp [hl]
    obtain ⟨h1, h2⟩ := same_loop (a := x) (b := y) (L := fun m n i (_ : Unit) => Z42.l0 (mkR (run E m)) m n x y i) (fun u v => u = v) (rt := some ⟨o_Z42, (true, ())⟩) (rf := some ⟨o_Z42, (false, ())⟩) hl.symm
      (fun k h h' hne => by
      obtain ⟨b, hb, hbe⟩ := eqMatrix_ret x[k] y[k] (hx.2 _ (List.getElem_mem h))
      have hb0 : b = false := by cases b <;> simp_all
      subst hb0
      refine hb.mono fun m hm n => ?_
      show Z42.l0 _ _ _ _ _ _ = _
      rw [Z42.l0_succ _ mk_ok, decide_eq_true (show (k : Int) < x.length by omega), cond_true, idx_lt h, idx_lt h']
      simp only [Option.bind_some, callT_of hm, Bool.not_false, Bool.not_true, cond_true, cond_false])
      (fun k h h' he => by
      obtain ⟨b, hb, hbe⟩ := eqMatrix_ret x[k] y[k] (hx.2 _ (List.getElem_mem h))
      have hb0 : b = true := by cases b <;> simp_all
      subst hb0
      refine hb.mono fun m hm n => ?_
      show Z42.l0 _ _ _ _ _ _ = _
      rw [Z42.l0_succ _ mk_ok, decide_eq_true (show (k : Int) < x.length by omega), cond_true, idx_lt h, idx_lt h']
      simp only [Option.bind_some, callT_of hm, Bool.not_false, Bool.not_true, cond_true, cond_false]
      rw [w64_succ (by omega)])
      (Evt.of fun m n => by
      show Z42.l0 _ _ _ _ _ _ = _
      rw [Z42.l0_succ _ mk_ok, decide_eq_false (by omega), cond_false])
    by_cases he : x = y
    · refine ⟨true, Evt.succ ((h1 (by subst he; intros; rfl)).mono fun n h => ?_), by simp [he]⟩
      rw [run_Z42, Z42.ev, hd, cond_false]
      exact h
    · refine ⟨false, Evt.succ ((h2 fun hh => he (List.ext_getElem hl hh)).mono fun n h => ?_), by simp [he]⟩
      rw [run_Z42, Z42.ev, hd, cond_false]
      exact h
  · have hd : ((x.length : Int) != (y.length : Int)) = true := by simp; omega
    refine ⟨false, Evt.succ (Evt.of fun n => ?_), ⟨fun h => (nomatch h), fun h => absurd (congrArg List.length h) hl⟩⟩
    rw [run_Z42, Z42.ev, hd, cond_true]

theorem eqSheaf_ret (x y : vS) (hx : Sm (.st yS) x) : ∃ b : Bool, Ret E n_Z43 [⟨yK, x.1⟩, ⟨yI, x.2.1⟩, ⟨yL, x.2.2.1⟩, ⟨yN, x.2.2.2.1⟩, ⟨yK, y.1⟩, ⟨yI, y.2.1⟩, ⟨yL, y.2.2.1⟩, ⟨yN, y.2.2.2.1⟩] ⟨o_Z43, (b, ())⟩ ∧ (b = true ↔ x = y) := by
  obtain ⟨b0, hr0, hb0⟩ := eqComplex_ret (x.1, ()) (y.1, ()) ⟨hx.1, trivial⟩
  obtain ⟨b1, hr1, hb1⟩ := eqInt64S_ret x.2.2.1 y.2.2.1 hx.2.2.1
  obtain ⟨b2, hr2, hb2⟩ := eqMatrixS_ret x.2.2.2.1 y.2.2.2.1 hx.2.2.2.1
  refine ⟨b0 && decide (x.2.1 = y.2.1) && b1 && b2, Evt.succ (((hr0.and hr1).and hr2).mono fun n hh => ?_), ?_⟩
  · obtain ⟨⟨e0, e1⟩, e2⟩ := hh
    rw [run_Z43, Z43.ev]
    simp only [Option.bind_some, callT_of e0, callT_of e1, callT_of e2]
    simp only [show (x.2.1 != y.2.1) = !decide (x.2.1 = y.2.1) from rfl]
    generalize decide (x.2.1 = y.2.1) = d1
    clear hx hr0 e0 hb0 hr1 e1 hb1 hr2 e2 hb2
    cases b0 <;> cases d1 <;> cases b1 <;> cases b2 <;> rfl
  · obtain ⟨x0, x1, x2, x3, _⟩ := x
    obtain ⟨y0, y1, y2, y3, _⟩ := y
    simp only [Bool.and_eq_true, decide_eq_true_eq, hb0, hb1, hb2, Prod.mk.injEq, and_true]
    try simp only [and_assoc]

end VeT

open Go Go.Proofs Ve
set_option linter.unusedVariables false
set_option linter.unusedSimpArgs false
namespace VeT

theorem IndexFunc_SSint64_Sint64_impl_ValidComplex_1_ret (s : List (List Int)) (c : ((vK × Unit) × (Int × Unit) × Unit)) (p : (List Int) → Bool) (hs : s.length ≤ 1048576) (hp : ∀ x ∈ s, Ret E n_Z9 [⟨yL, x⟩, ⟨(.ptr (.cons yK .nil)), c.1⟩, ⟨(.ptr (.cons yI .nil)), c.2.1⟩] ⟨o_Z9, (p x, ())⟩) :
    Ret E n_Z74 [⟨yK, s⟩, ⟨(.fn n_Z9 (.cons (.ptr (.cons yK .nil)) (.cons (.ptr (.cons yI .nil)) .nil))), c⟩] ⟨o_Z74, (idxf p s, ())⟩ := by
  obtain ⟨o, h1, h2, h3⟩ := find_loop 1 (L := fun φ n k => Z75.l0 (mkR (run E (φ 0))) (φ 0) n s c (s.length : Int) k) (len := s.length) (fun k => ∃ h : k < s.length, p s[k] = true) (fun o => some ⟨o_Z74, (o2i o, ())⟩) (fun _ _ _ _ => rfl) (fun k hk hP => by
      obtain ⟨_, hP⟩ := hP
      simp only [Z75.l0_succ _ mk_ok]
      refine ev_t (decide_eq_true (by omega)) (ev_bind (idx_lt hk) (ev_call (hp _ (List.getElem_mem hk)) (ev_t hP ev_rfl)))) (fun k q hk hP ih => by
      simp only [Z75.l0_succ _ mk_ok]
      refine ev_t (decide_eq_true (by omega)) (ev_bind (idx_lt hk) (ev_call (hp _ (List.getElem_mem hk)) (ev_f (Bool.eq_false_iff.2 fun h => hP ⟨hk, h⟩) ?_)))
      rw [w64_succ (by omega)]; exact ih) (by
      simp only [Z75.l0_succ _ mk_ok]
      exact ev_f (decide_eq_false (by omega)) ev_rfl)
  rw [idxf_of h1 h2] at h3
  refine ret_of ?_
  simp only [run_Z74, Z75.ev]
  exact Ev.start (p := fun φ n => Z75.l0 (mkR (run E (φ 0))) (φ 0) n s c (s.length : Int) 0 = _) 1 h3 (fun _ _ _ h => h)

theorem IndexFunc_Sint64_int64_impl_TwistedSheaf_1_ret (s : List Int) (c : ((Int × Unit) × Unit)) (p : Int → Bool) (hs : s.length ≤ 1048576) (hp : ∀ x ∈ s, Ret E n_Z6 [⟨yI, x⟩, ⟨(.ptr (.cons yI .nil)), c.1⟩] ⟨o_Z6, (p x, ())⟩) :
    Ret E n_Z76 [⟨yL, s⟩, ⟨(.fn n_Z6 (.cons (.ptr (.cons yI .nil)) .nil)), c⟩] ⟨o_Z76, (idxf p s, ())⟩ := by
  obtain ⟨o, h1, h2, h3⟩ := find_loop 1 (L := fun φ n k => Z77.l0 (mkR (run E (φ 0))) (φ 0) n s c (s.length : Int) k) (len := s.length) (fun k => ∃ h : k < s.length, p s[k] = true) (fun o => some ⟨o_Z76, (o2i o, ())⟩) (fun _ _ _ _ => rfl) (fun k hk hP => by
      obtain ⟨_, hP⟩ := hP
      simp only [Z77.l0_succ _ mk_ok]
      refine ev_t (decide_eq_true (by omega)) (ev_bind (idx_lt hk) (ev_call (hp _ (List.getElem_mem hk)) (ev_t hP ev_rfl)))) (fun k q hk hP ih => by
      simp only [Z77.l0_succ _ mk_ok]
      refine ev_t (decide_eq_true (by omega)) (ev_bind (idx_lt hk) (ev_call (hp _ (List.getElem_mem hk)) (ev_f (Bool.eq_false_iff.2 fun h => hP ⟨hk, h⟩) ?_)))
      rw [w64_succ (by omega)]; exact ih) (by
      simp only [Z77.l0_succ _ mk_ok]
      exact ev_f (decide_eq_false (by omega)) ev_rfl)
  rw [idxf_of h1 h2] at h3
  refine ret_of ?_
  simp only [run_Z76, Z77.ev]
  exact Ev.start (p := fun φ n => Z77.l0 (mkR (run E (φ 0))) (φ 0) n s c (s.length : Int) 0 = _) 1 h3 (fun _ _ _ h => h)

theorem IndexFunc_Sint64_int64_impl_ValidSimplex_1_ret (s : List Int) (p : Int → Bool) (hs : s.length ≤ 1048576) (hp : ∀ x ∈ s, Ret E n_Z12 [⟨yI, x⟩] ⟨o_Z12, (p x, ())⟩) :
    Ret E n_Z76 [⟨yL, s⟩, ⟨(.fn n_Z12 .nil), ()⟩] ⟨o_Z76, (idxf p s, ())⟩ := by
  obtain ⟨o, h1, h2, h3⟩ := find_loop 1 (L := fun φ n k => Z78.l0 (mkR (run E (φ 0))) (φ 0) n s (s.length : Int) k) (len := s.length) (fun k => ∃ h : k < s.length, p s[k] = true) (fun o => some ⟨o_Z76, (o2i o, ())⟩) (fun _ _ _ _ => rfl) (fun k hk hP => by
      obtain ⟨_, hP⟩ := hP
      simp only [Z78.l0_succ _ mk_ok]
      refine ev_t (decide_eq_true (by omega)) (ev_bind (idx_lt hk) (ev_call (hp _ (List.getElem_mem hk)) (ev_t hP ev_rfl)))) (fun k q hk hP ih => by
      simp only [Z78.l0_succ _ mk_ok]
      refine ev_t (decide_eq_true (by omega)) (ev_bind (idx_lt hk) (ev_call (hp _ (List.getElem_mem hk)) (ev_f (Bool.eq_false_iff.2 fun h => hP ⟨hk, h⟩) ?_)))
      rw [w64_succ (by omega)]; exact ih) (by
      simp only [Z78.l0_succ _ mk_ok]
      exact ev_f (decide_eq_false (by omega)) ev_rfl)
  rw [idxf_of h1 h2] at h3
  refine ret_of ?_
  simp only [run_Z76, Z78.ev]
  exact Ev.start (p := fun φ n => Z78.l0 (mkR (run E (φ 0))) (φ 0) n s (s.length : Int) 0 = _) 1 h3 (fun _ _ _ h => h)

theorem IndexFunc_Sint64_int64_impl_areStalks_1_ret (s : List Int) (p : Int → Bool) (hs : s.length ≤ 1048576) (hp : ∀ x ∈ s, Ret E n_Z14 [⟨yI, x⟩] ⟨o_Z14, (p x, ())⟩) :
    Ret E n_Z76 [⟨yL, s⟩, ⟨(.fn n_Z14 .nil), ()⟩] ⟨o_Z76, (idxf p s, ())⟩ := by
  obtain ⟨o, h1, h2, h3⟩ := find_loop 1 (L := fun φ n k => Z79.l0 (mkR (run E (φ 0))) (φ 0) n s (s.length : Int) k) (len := s.length) (fun k => ∃ h : k < s.length, p s[k] = true) (fun o => some ⟨o_Z76, (o2i o, ())⟩) (fun _ _ _ _ => rfl) (fun k hk hP => by
      obtain ⟨_, hP⟩ := hP
      simp only [Z79.l0_succ _ mk_ok]
      refine ev_t (decide_eq_true (by omega)) (ev_bind (idx_lt hk) (ev_call (hp _ (List.getElem_mem hk)) (ev_t hP ev_rfl)))) (fun k q hk hP ih => by
      simp only [Z79.l0_succ _ mk_ok]
      refine ev_t (decide_eq_true (by omega)) (ev_bind (idx_lt hk) (ev_call (hp _ (List.getElem_mem hk)) (ev_f (Bool.eq_false_iff.2 fun h => hP ⟨hk, h⟩) ?_)))
      rw [w64_succ (by omega)]; exact ih) (by
      simp only [Z79.l0_succ _ mk_ok]
      exact ev_f (decide_eq_false (by omega)) ev_rfl)
  rw [idxf_of h1 h2] at h3
  refine ret_of ?_
  simp only [run_Z76, Z79.ev]
  exact Ev.start (p := fun φ n => Z79.l0 (mkR (run E (φ 0))) (φ 0) n s (s.length : Int) 0 = _) 1 h3 (fun _ _ _ h => h)

theorem ContainsFunc_SSint64_Sint64_impl_ValidComplex_1_ret (s : List (List Int)) (c : ((vK × Unit) × (Int × Unit) × Unit)) (p : (List Int) → Bool) (hs : s.length ≤ 1048576) (hp : ∀ x ∈ s, Ret E n_Z9 [⟨yL, x⟩, ⟨(.ptr (.cons yK .nil)), c.1⟩, ⟨(.ptr (.cons yI .nil)), c.2.1⟩] ⟨o_Z9, (p x, ())⟩) :
    Ret E n_Z66 [⟨yK, s⟩, ⟨(.fn n_Z9 (.cons (.ptr (.cons yK .nil)) (.cons (.ptr (.cons yI .nil)) .nil))), c⟩] ⟨o_Z66, (pb (∃ x ∈ s, p x = true), ())⟩ := by
  refine ret_of ?_
  simp only [run_Z66, Z67.ev]
  refine ev_call (IndexFunc_SSint64_Sint64_impl_ValidComplex_1_ret s c p hs hp) (ev_some ?_)
  simp only [ge_iff_le, pb_dec, pb_congr idxf_nonneg]

theorem ContainsFunc_Sint64_int64_impl_TwistedSheaf_1_ret (s : List Int) (c : ((Int × Unit) × Unit)) (p : Int → Bool) (hs : s.length ≤ 1048576) (hp : ∀ x ∈ s, Ret E n_Z6 [⟨yI, x⟩, ⟨(.ptr (.cons yI .nil)), c.1⟩] ⟨o_Z6, (p x, ())⟩) :
    Ret E n_Z68 [⟨yL, s⟩, ⟨(.fn n_Z6 (.cons (.ptr (.cons yI .nil)) .nil)), c⟩] ⟨o_Z68, (pb (∃ x ∈ s, p x = true), ())⟩ := by
  refine ret_of ?_
  simp only [run_Z68, Z69.ev]
  refine ev_call (IndexFunc_Sint64_int64_impl_TwistedSheaf_1_ret s c p hs hp) (ev_some ?_)
  simp only [ge_iff_le, pb_dec, pb_congr idxf_nonneg]

theorem ContainsFunc_Sint64_int64_impl_ValidSimplex_1_ret (s : List Int) (p : Int → Bool) (hs : s.length ≤ 1048576) (hp : ∀ x ∈ s, Ret E n_Z12 [⟨yI, x⟩] ⟨o_Z12, (p x, ())⟩) :
    Ret E n_Z68 [⟨yL, s⟩, ⟨(.fn n_Z12 .nil), ()⟩] ⟨o_Z68, (pb (∃ x ∈ s, p x = true), ())⟩ := by
  refine ret_of ?_
  simp only [run_Z68, Z70.ev]
  refine ev_call (IndexFunc_Sint64_int64_impl_ValidSimplex_1_ret s p hs hp) (ev_some ?_)
  simp only [ge_iff_le, pb_dec, pb_congr idxf_nonneg]

theorem ContainsFunc_Sint64_int64_impl_areStalks_1_ret (s : List Int) (p : Int → Bool) (hs : s.length ≤ 1048576) (hp : ∀ x ∈ s, Ret E n_Z14 [⟨yI, x⟩] ⟨o_Z14, (p x, ())⟩) :
    Ret E n_Z68 [⟨yL, s⟩, ⟨(.fn n_Z14 .nil), ()⟩] ⟨o_Z68, (pb (∃ x ∈ s, p x = true), ())⟩ := by
  refine ret_of ?_
  simp only [run_Z68, Z71.ev]
  refine ev_call (IndexFunc_Sint64_int64_impl_areStalks_1_ret s p hs hp) (ev_some ?_)
  simp only [ge_iff_le, pb_dec, pb_congr idxf_nonneg]

theorem filled_impl_unit_1_ret (p : Int) (R C : Nat) (f : Nat → Nat → Int) (hR : R ≤ 1048576) (hC : C ≤ 1048576) (hRC : R * C ≤ 1048576) (hf : ∀ i j : Nat, i < R → j < C → Ret E n_Z35 [⟨yI, (i : Int)⟩, ⟨yI, (j : Int)⟩] ⟨o_Z35, (f i j, ())⟩) :
    Ret E n_Z22 [⟨yI, p⟩, ⟨yI, (R : Int)⟩, ⟨yI, (C : Int)⟩, ⟨(.fn n_Z35 .nil), ()⟩] ⟨o_Z22, (p, (R : Int), (C : Int), flatF f C R, ())⟩ := by
  refine ret_of ?_
  simp only [run_Z22, Z23.ev]
  refine Ev.start (p := fun φ n => Z23.l0 (mkR (run E (φ 0))) (φ 0) n (C : Int) (R : Int) 0 0 0 0 p (R : Int) (C : Int) [] = _) 1 ?_ (fun _ _ _ h => h)
  refine fold_loop 1 (L := fun φ n k a => Z23.l0 (mkR (run E (φ 0))) (φ 0) n (C : Int) (R : Int) k 0 0 0 p (R : Int) (C : Int) a) (len := R) (fun k => flatF f C k) (fun _ _ _ _ _ => rfl) (fun k r hk ih => ?_) ?_
  · simp only [Z23.l0_succ _ mk_ok]
    refine ev_t (decide_eq_true (by omega)) ?_
    refine Ev.start (p := fun φ n => Z23.l1 (mkR (run E (φ 0))) (φ 0) (φ 1) n (C : Int) (k : Int) (R : Int) (k : Int) (C : Int) 0 0 0 0 p (R : Int) (C : Int) (flatF f C k) = _) 2 ?_ (fun _ _ _ h => h)
    have hle : (k + 1) * C ≤ R * C := Nat.mul_le_mul_right _ hk
    rw [Nat.add_mul] at hle
    have := fold_loop 2 (L := fun φ n j a => Z23.l1 (mkR (run E (φ 0))) (φ 0) (φ 1) n (C : Int) (k : Int) (R : Int) (k : Int) (C : Int) j 0 0 0 p (R : Int) (C : Int) a) (len := C) (fun j => flatF f C k ++ (List.range j).map (f k)) (r := r) (fun _ _ _ _ _ => rfl) (fun j r hj ih => ?_) ?_
    · simpa using this
    · simp only [Z23.l1_succ _ mk_ok]
      rw [List.range_succ, List.map_append, ← List.append_assoc] at ih
      refine ev_t (decide_eq_true (by omega)) (ev_call (hf k j hk hj) (ev_chk (by simp [flatF_length]; omega) ?_))
      rw [w64_succ (by omega)]; exact ih
    · simp only [Z23.l1_succ _ mk_ok]
      refine ev_f (decide_eq_false (by omega)) ?_
      rw [w64_succ (by omega)]; exact ih
  · simp only [Z23.l0_succ _ mk_ok]
    exact ev_f (decide_eq_false (by omega)) ev_rfl

end VeT

open Go Go.Proofs Ve
set_option linter.unusedVariables false
set_option linter.unusedSimpArgs false
namespace VeT

abbrev cM : Ty := .cons yI (.cons yI (.cons yI (.cons yL .nil)))
abbrev cC : Ty := .cons yK .nil
abbrev cS : Ty := .cons yK (.cons yI (.cons yL (.cons (.sl (.st cM)) .nil)))
abbrev Mat := Int × Int × Int × List Int × Unit
abbrev Cpx := List (List Int) × Unit
abbrev Shf := List (List Int) × Int × List Int × List Mat × Unit
abbrev Sim := List Int
abbrev dI (x : Int) : Dv := ⟨.int .i64,x⟩
abbrev dL (x : List Int) : Dv := ⟨.sl yI,x⟩
abbrev dLL (x : List (List Int)) : Dv := ⟨.sl yL,x⟩
abbrev dC (x : Cpx) : Dv := ⟨.ptr cC,x⟩
abbrev dM (x : Mat) : Dv := ⟨.ptr cM,x⟩
abbrev dS (x : Shf) : Dv := ⟨.ptr cS,x⟩
abbrev dMs (x : List Mat) : Dv := ⟨.sl (.st cM),x⟩

theorem within_ret (n lo hi : Int) : Ret E n_Z36 [dI n,dI lo,dI hi] ⟨o_Z36,(pb (lo ≤ n ∧ n ≤ hi),())⟩ := by
  refine ret_of ?_
  simp only [run_Z36,Z36.ev]
  refine ev_d (fun h => ev_some ?_) fun h => ev_some ?_
  · rw [pb_dec,pb_congr (show n ≤ hi ↔ lo ≤ n ∧ n ≤ hi by omega)]
  · rw [pb_false (by omega)]

theorem l00In_ret (n lo hi : Int) : Ret E n_Z85 [dI n,dI lo,dI hi] ⟨o_Z85,(pb (lo ≤ n ∧ n ≤ hi),())⟩ := by
  refine ret_of ?_
  simp only [run_Z85,Z85.ev]
  refine ev_d (fun h => ev_some ?_) fun h => ev_some ?_
  · rw [pb_dec,pb_congr (show n ≤ hi ↔ lo ≤ n ∧ n ≤ hi by omega)]
  · rw [pb_false (by omega)]

theorem isVertex_ret (n : Int) : Ret E n_Z27 [dI n] ⟨o_Z27,(pb (0 ≤ n ∧ n ≤ 9),())⟩ := by
  refine ret_of ?_
  simp only [run_Z27,Z27.ev]
  exact ev_call (within_ret _ _ _) ev_rfl

theorem ValidSimplex_1_ret (n : Int) : Ret E n_Z12 [dI n] ⟨o_Z12,(!pb (0 ≤ n ∧ n ≤ 9),())⟩ := by
  refine ret_of ?_
  simp only [run_Z12,Z12.ev]
  exact ev_call (isVertex_ret _) ev_rfl

/-- the list rises -/
def Rises (s : Sim) : Prop := ∀ j,1 ≤ j → j < s.length → s.getD (j - 1) 0 < s.getD j 0

theorem isRising_ret (s : Sim) (hs : Sm yL s) : Ret E n_Z26 [dL s] ⟨o_Z26,(pb (Rises s),())⟩ := by
  have hs1 : s.length ≤ 1048576 := hs.1
  refine ret_of ?_
  simp only [run_Z26,Z26.ev]
  by_cases h0 : s.length = 0
  · refine Ev.start (p := fun φ n => Z26.l0 (mkR (run E (φ 0))) (φ 0) n s 1 = _) 1 ?_ (fun _ _ _ h => h)
    refine loopR 1 (σ := Unit) (L := fun φ n _ => Z26.l0 (mkR (run E (φ 0))) (φ 0) n s 1) (fun _ _ _ _ => rfl) (fun _ => True) (fun _ => _) (fun _ => 0) (fun _ _ _ => ?_) () trivial
    simp only [Z26.l0_succ _ mk_ok]
    refine ev_f (decide_eq_false (by omega)) (ev_some ?_)
    rw [pb_true]
    intro j h1 h2; omega
  · refine Ev.start (p := fun φ n => Z26.l0 (mkR (run E (φ 0))) (φ 0) n s 1 = _) 1 ?_ (fun _ _ _ h => h)
    refine all_pb 1 (L := fun φ n k => Z26.l0 (mkR (run E (φ 0))) (φ 0) n s k) (len := s.length) 1 (by omega) (fun j => s.getD (j - 1) 0 < s.getD j 0) (fun b => some ⟨o_Z26,(b,())⟩) (fun _ _ _ _ => rfl) (fun k h1 h2 hP _ => ?_) (fun k r h1 h2 hP _ ih => ?_) (fun _ => ?_)
    · simp only [Z26.l0_succ _ mk_ok]
      refine ev_t (decide_eq_true (by omega)) ?_
      rw [w64_small (by omega) (by omega),show ((k : Int) - 1) = ((k - 1 : Nat) : Int) by omega]
      refine ev_bind (idx_lt (by omega)) (ev_bind (idx_lt h2) (ev_t (decide_eq_true ?_) ev_rfl))
      simpa [List.getD_eq_getElem?_getD,h2,show k - 1 < s.length by omega] using hP
    · simp only [Z26.l0_succ _ mk_ok]
      refine ev_t (decide_eq_true (by omega)) ?_
      rw [w64_small (by omega) (by omega),show ((k : Int) - 1) = ((k - 1 : Nat) : Int) by omega]
      refine ev_bind (idx_lt (by omega)) (ev_bind (idx_lt h2) (ev_f (decide_eq_false ?_) ?_))
      · simpa [List.getD_eq_getElem?_getD,h2,show k - 1 < s.length by omega] using hP
      · rw [w64_succ (by omega)]; exact ih
    · simp only [Z26.l0_succ _ mk_ok]
      exact ev_f (decide_eq_false (by omega)) ev_rfl

end VeT

open Go Go.Proofs Ve
set_option linter.unusedVariables false
set_option linter.unusedSimpArgs false
namespace VeT

def Vx (s : Sim) : Prop := 1 ≤ s.length ∧ s.length ≤ 4 ∧ Rises s ∧ ∀ x ∈ s,0 ≤ x ∧ x ≤ 9

theorem ValidSimplex_ret (s : Sim) (hs : Sm yL s) : Ret E n_Z11 [dL s] ⟨o_Z11,(pb (Vx s),())⟩ := by
  refine ret_of ?_
  simp only [run_Z11,Z11.ev]
  refine ev_d (fun h1 => ev_d (fun h2 => ev_call (isRising_ret s hs) (ev_b (fun h3 => ev_call (ContainsFunc_Sint64_int64_impl_ValidSimplex_1_ret s _ hs.1 fun x _ => ValidSimplex_1_ret x) (ev_some ?_)) fun h3 => ev_some ?_)) fun h2 => ev_some ?_) fun h1 => ev_some ?_
  · have h3 := pb_iff.1 h3
    have : (!pb (∃ x ∈ s,(!pb (0 ≤ x ∧ x ≤ 9)) = true)) = pb (Vx s) := eq_pb (by
      simp only [Bool.not_eq_true',pb_not]
      exact ⟨fun h => ⟨by omega,by omega,h3,fun x hx => Classical.byContradiction fun hn => h ⟨x,hx,hn⟩⟩,fun h ⟨x,hx,hn⟩ => hn (h.2.2.2 x hx)⟩)
    rw [this]
  · rw [pb_false fun h => pb_not.1 h3 h.2.2.1]
  · rw [pb_false fun h => h2 (by have := h.2.1; omega)]
  · rw [pb_false fun h => h1 (by have := h.1; omega)]

theorem l00Rises_ret (s : Sim) (lo hi : Int) (hs : Sm yL s) : Ret E n_Z87 [dL s,dI lo,dI hi] ⟨o_Z87,(pb (Rises s ∧ ∀ x ∈ s,lo ≤ x ∧ x ≤ hi),())⟩ := by
  have hs1 : s.length ≤ 1048576 := hs.1
  refine ret_of ?_
  simp only [run_Z87,Z87.ev]
  refine Ev.start (p := fun φ n => Z87.l0 (mkR (run E (φ 0))) (φ 0) n s lo hi 0 = _) 1 ?_ (fun _ _ _ h => h)
  refine (all_pb 1 (L := fun φ n k => Z87.l0 (mkR (run E (φ 0))) (φ 0) n s lo hi k) (len := s.length) 0 (by omega) (fun j => (lo ≤ s.getD j 0 ∧ s.getD j 0 ≤ hi) ∧ (1 ≤ j → s.getD (j - 1) 0 < s.getD j 0)) (fun b => some ⟨o_Z87,(b,())⟩) (fun _ _ _ _ => rfl) (fun k h1 h2 hP _ => ?_) (fun k r h1 h2 hP _ ih => ?_) (fun _ => ?_)).to ?_
  · simp only [Z87.l0_succ _ mk_ok]
    refine ev_t (decide_eq_true (by omega)) (ev_bind (idx_lt h2) (ev_call (l00In_ret _ _ _) ?_))
    have e : s.getD k 0 = s[k] := by simp [List.getD_eq_getElem?_getD,h2]
    rw [e] at hP
    refine ev_b (fun _ => ?_) (fun hin => ?_)
    · simp only [Z87.j1_eq _ mk_ok,cond_true]; (first | exact ev_rfl | exact Ev.of fun _ => trivial)
    · have hin : lo ≤ s[k] ∧ s[k] ≤ hi := pb_iff.1 (by simpa using hin)
      have hk : 1 ≤ k := Classical.byContradiction fun h => hP ⟨hin,fun h' => absurd h' h⟩
      refine ev_t (decide_eq_true (by omega)) ?_
      rw [w64_small (by omega) (by omega),show ((k : Int) - 1) = ((k - 1 : Nat) : Int) by omega]
      refine ev_bind (idx_lt (by omega)) (ev_bind (idx_lt h2) ?_)
      have e' : s.getD (k - 1) 0 = s[k - 1] := by simp [List.getD_eq_getElem?_getD,show k - 1 < s.length by omega]
      rw [e'] at hP
      have : decide (s[k-1] ≥ s[k]) = true := decide_eq_true (Classical.byContradiction fun h => hP ⟨hin,fun _ => by omega⟩)
      simp only [this,Z87.j1_eq _ mk_ok,cond_true]; (first | exact ev_rfl | exact Ev.of fun _ => trivial)
  · simp only [Z87.l0_succ _ mk_ok]
    refine ev_t (decide_eq_true (by omega)) (ev_bind (idx_lt h2) (ev_call (l00In_ret _ _ _) ?_))
    have e : s.getD k 0 = s[k] := by simp [List.getD_eq_getElem?_getD,h2]
    rw [e] at hP
    refine ev_f (by rw [pb_true hP.1]; rfl) ?_
    refine ev_d (fun hk => ?_) fun hk => ?_
    · rw [w64_small (by omega) (by omega),show ((k : Int) - 1) = ((k - 1 : Nat) : Int) by omega]
      refine ev_bind (idx_lt (by omega)) (ev_bind (idx_lt h2) ?_)
      have e' : s.getD (k - 1) 0 = s[k - 1] := by simp [List.getD_eq_getElem?_getD,show k - 1 < s.length by omega]
      rw [e'] at hP
      have : decide (s[k-1] ≥ s[k]) = false := decide_eq_false (by have := hP.2 (by omega); omega)
      simp only [this,Z87.j1_eq _ mk_ok,cond_false]
      rw [w64_succ (by omega)]; exact ih
    · simp only [Z87.j1_eq _ mk_ok,cond_false]
      rw [w64_succ (by omega)]; exact ih
  · simp only [Z87.l0_succ _ mk_ok]
    exact ev_f (decide_eq_false (by omega)) ev_rfl
  · refine congrArg (fun b : Bool => some (⟨o_Z87,(b,())⟩ : Dv)) (pb_congr ⟨fun h => ⟨fun j h1 h2 => (h j (by omega) h2).2 h1,fun x hx => ?_⟩,fun ⟨h1,h2⟩ j _ hj => ⟨?_,fun h3 => h1 j h3 hj⟩⟩)
    · obtain ⟨j,hj,rfl⟩ := List.mem_iff_getElem.1 hx
      simpa [List.getD_eq_getElem?_getD,hj] using (h j (by omega) hj).1
    · simpa [List.getD_eq_getElem?_getD,hj] using h2 _ (List.getElem_mem hj)

theorem l05Simplex_ret (s : Sim) (hs : Sm yL s) : Ret E n_Z99 [dL s] ⟨o_Z99,(pb (Vx s),())⟩ := by
  refine ret_of ?_
  simp only [run_Z99,Z99.ev]
  refine ev_call (l00In_ret _ _ _) (ev_b (fun h1 => ev_call (l00Rises_ret s _ _ hs) (ev_some ?_)) fun h1 => ev_some ?_)
  · have h1 := pb_iff.1 h1
    exact congrArg (fun b : Bool => some (⟨o_Z99,(b,())⟩ : Dv)) (pb_congr ⟨fun h => ⟨by omega,by omega,h.1,h.2⟩,fun h => ⟨h.2.2.1,h.2.2.2⟩⟩)
  · rw [pb_false fun h => pb_not.1 h1 ⟨by have := h.1; omega,by have := h.2.1; omega⟩]

/-! comparing -/
def cmp3 (a b : Int) : Int := if a < b then -1 else if b < a then 1 else 0
def lexc : Sim → Sim → Int
  | [],[] => 0
  | [],_ :: _ => -1
  | _ :: _,[] => 1
  | x :: xs,y :: ys => if x < y then -1 else if y < x then 1 else lexc xs ys
def cmpS (a b : Sim) : Int := if cmp3 a.length b.length ≠ 0 then cmp3 a.length b.length else lexc a b

theorem cmp3_zero {a b : Int} : cmp3 a b = 0 ↔ a = b := by unfold cmp3; split <;> (try split) <;> omega
theorem cmp3_neg {a b : Int} : cmp3 b a = - cmp3 a b := by unfold cmp3; split <;> split <;> (try split) <;> omega
theorem cmp3_lt {a b : Int} : cmp3 a b < 0 ↔ a < b := by unfold cmp3; split <;> (try split) <;> omega
theorem lexc_eq : ∀ {a b : Sim},lexc a b = 0 ↔ a = b
  | [],[] => by simp [lexc]
  | [],_ :: _ => by simp [lexc]
  | _ :: _,[] => by simp [lexc]
  | x :: xs,y :: ys => by
    have := @lexc_eq xs ys
    simp only [lexc,List.cons.injEq]
    split
    · constructor
      · intro h; omega
      · rintro ⟨rfl,_⟩; omega
    · split
      · constructor
        · intro h; omega
        · rintro ⟨rfl,_⟩; omega
      · rw [this]; constructor
        · intro h; exact ⟨by omega,h⟩
        · exact fun h => h.2
theorem lexc_neg : ∀ {a b : Sim},lexc b a = - lexc a b
  | [],[] => by simp [lexc]
  | [],_ :: _ => by simp [lexc]
  | _ :: _,[] => by simp [lexc]
  | x :: xs,y :: ys => by
    have := @lexc_neg xs ys
    simp only [lexc]
    split <;> split <;> (try split) <;> omega
theorem lexc_trans : ∀ {a b c : Sim},lexc a b < 0 → lexc b c < 0 → lexc a c < 0
  | [],[],c,h,_ => by simp [lexc] at h
  | [],_ :: _,[],_,h => by simp [lexc] at h
  | [],_ :: _,_ :: _,_,_ => by simp [lexc]
  | _ :: _,[],_,h,_ => by simp [lexc] at h
  | _ :: _,_ :: _,[],_,h => by simp [lexc] at h
  | x :: xs,y :: ys,z :: zs,h1,h2 => by
    have := @lexc_trans xs ys zs
    simp only [lexc] at h1 h2 ⊢
    split at h1 <;> split at h2 <;> (try split at h1) <;> (try split at h2) <;> (try split) <;> (try split) <;> first | omega | (exact this h1 h2)
theorem cmpS_zero {a b : Sim} : cmpS a b = 0 ↔ a = b := by
  unfold cmpS
  split
  · rename_i h
    exact ⟨fun h' => absurd h' h,fun h' => absurd (cmp3_zero.2 (by rw [h'])) h⟩
  · exact lexc_eq
theorem cmpS_neg {a b : Sim} : cmpS b a = - cmpS a b := by
  unfold cmpS
  rw [@cmp3_neg a.length b.length]
  split <;> split <;> first | omega | exact lexc_neg
theorem cmpS_lt {a b : Sim} : cmpS a b < 0 ↔ a.length < b.length ∨ a.length = b.length ∧ lexc a b < 0 := by
  unfold cmpS
  split
  · rename_i h
    rw [cmp3_lt]
    rw [Ne,cmp3_zero] at h
    omega
  · rename_i h
    rw [Classical.not_not,cmp3_zero] at h
    omega
theorem cmpS_trans {a b c : Sim} (h1 : cmpS a b < 0) (h2 : cmpS b c < 0) : cmpS a c < 0 := by
  rw [cmpS_lt] at *
  rcases h1 with h1 | ⟨h1,h1'⟩ <;> rcases h2 with h2 | ⟨h2,h2'⟩
  · left; omega
  · left; omega
  · left; omega
  · right; exact ⟨by omega,lexc_trans h1' h2'⟩

theorem isNaNi_ret (a : Int) : Ret E n_Z3 [dI a] ⟨o_Z3,(false,())⟩ := by
  refine ret_of ?_
  simp only [run_Z3,Z3.ev]
  exact ev_some (by simp)
theorem isNaN_ret (a : Int) : Ret E n_Z4 [dI a] ⟨o_Z4,(false,())⟩ := by
  refine ret_of ?_
  simp only [run_Z4,Z4.ev]
  exact ev_some (by simp)

theorem Comparei_ret (a b : Int) : Ret E n_Z0 [dI a,dI b] ⟨o_Z0,(cmp3 a b,())⟩ := by
  refine ret_of ?_
  simp only [run_Z0,Z0.ev]
  refine ev_call (isNaNi_ret _) (ev_call (isNaNi_ret _) (ev_f rfl (ev_f rfl (ev_d (fun h => ev_some ?_) fun h => ev_d (fun h2 => ev_some ?_) fun h2 => ev_some ?_))))
  · rw [cmp3,if_pos h]
  · rw [cmp3,if_neg h,if_pos h2]
  · rw [cmp3,if_neg h,if_neg h2]
theorem Compare_ret (a b : Int) : Ret E n_Z1 [dI a,dI b] ⟨o_Z1,(cmp3 a b,())⟩ := by
  refine ret_of ?_
  simp only [run_Z1,Z1.ev]
  refine ev_call (isNaN_ret _) (ev_call (isNaN_ret _) (ev_f rfl (ev_f rfl (ev_d (fun h => ev_some ?_) fun h => ev_d (fun h2 => ev_some ?_) fun h2 => ev_some ?_))))
  · rw [cmp3,if_pos h]
  · rw [cmp3,if_neg h,if_pos h2]
  · rw [cmp3,if_neg h,if_neg h2]

theorem lexc_step {a b : Sim} {k : Nat} (h : k < a.length) (h' : k < b.length) : lexc (a.drop k) (b.drop k) = if cmp3 a[k] b[k] ≠ 0 then cmp3 a[k] b[k] else lexc (a.drop (k + 1)) (b.drop (k + 1)) := by
  rw [List.drop_eq_getElem_cons h,List.drop_eq_getElem_cons h',lexc]
  unfold cmp3
  split
  · simp
  · split
    · simp
    · simp

theorem SliceCompare_ret (a b : Sim) (ha : Sm yL a) : Ret E n_Z64 [dL a,dL b] ⟨o_Z64,(lexc a b,())⟩ := by
  have ha1 : a.length ≤ 1048576 := ha.1
  refine ret_of ?_
  simp only [run_Z64,Z64.ev]
  refine Ev.start (p := fun φ n => Z64.l0 (mkR (run E (φ 0))) (φ 0) n a b a (a.length : Int) 0 = _) 1 ?_ (fun _ _ _ h => h)
  refine loopR 1 (σ := Nat) (L := fun φ n k => Z64.l0 (mkR (run E (φ 0))) (φ 0) n a b a (a.length : Int) (k : Int)) (fun _ _ _ _ => rfl) (fun k => k ≤ a.length ∧ k ≤ b.length) (fun k => some ⟨o_Z64,(lexc (a.drop k) (b.drop k),())⟩) (fun k => a.length - k) (fun k ⟨hk,hkb⟩ ih => ?_) 0 ⟨Nat.zero_le _,Nat.zero_le _⟩
  simp only [Z64.l0_succ _ mk_ok]
  refine ev_d (fun h => ?_) fun h => ?_
  · have hka : k < a.length := by omega
    refine ev_bind (idx_lt hka) (ev_d (fun h2 => ev_some ?_) fun h2 => ?_)
    · rw [List.drop_eq_getElem_cons hka,List.drop_of_length_le (l := b) (by omega),lexc]
    · have hkb : k < b.length := by omega
      refine ev_bind (idx_lt hkb) (ev_call (Compare_ret _ _) (ev_b (fun h3 => ev_some ?_) fun h3 => ?_))
      · rw [lexc_step hka hkb,if_pos (by simpa using h3)]
      · rw [w64_succ (by omega)]
        refine (ih (k + 1) ⟨by omega,by omega⟩ (by omega)).to ?_
        rw [lexc_step hka hkb,if_neg (by simpa using h3)]
  · have e : k = a.length := by omega
    subst e
    refine ev_d (fun h2 => ev_some ?_) fun h2 => ev_some ?_
    · rw [List.drop_of_length_le (l := a) (by omega),List.drop_eq_getElem_cons (l := b) (by omega),lexc]
    · rw [List.drop_of_length_le (l := a) (by omega),List.drop_of_length_le (l := b) (by omega),lexc]

theorem Or2_ret (a b : Int) : Ret E n_Z2 [dL [a,b]] ⟨o_Z2,(if a ≠ 0 then a else b,())⟩ := by
  refine ret_of ?_
  simp only [run_Z2,Z2.ev]
  refine Ev.start (p := fun φ n => Z2.l0 (mkR (run E (φ 0))) (φ 0) n 0 [a,b] ([a,b].length : Int) 0 = _) 1 ?_ (fun _ _ _ h => h)
  refine Ev.round 1 (L := fun φ n => Z2.l0 (mkR (run E (φ 0))) (φ 0) n 0 [a,b] ([a,b].length : Int) 0) ?_ (fun _ _ _ => rfl)
  simp only [Z2.l0_succ _ mk_ok]
  refine ev_t (by simp) (ev_bind (x := a) rfl (ev_b (fun h => ev_some ?_) fun h => ?_))
  · rw [if_pos (by simpa using h)]
  · rw [if_neg (by simpa using h)]
    rw [show w64 ((0 : Int) + 1) = 1 by decide]
    refine Ev.round 1 (L := fun φ n => Z2.l0 (mkR (run E (φ 0))) (φ 0) n 0 [a,b] ([a,b].length : Int) 1) ?_ (fun _ _ _ => rfl)
    simp only [Z2.l0_succ _ mk_ok]
    refine ev_t (by simp) (ev_bind (x := b) rfl (ev_b (fun h => ev_rfl) fun h => ?_))
    rw [show w64 ((1 : Int) + 1) = 2 by decide]
    refine Ev.round 1 (L := fun φ n => Z2.l0 (mkR (run E (φ 0))) (φ 0) n 0 [a,b] ([a,b].length : Int) 2) ?_ (fun _ _ _ => rfl)
    simp only [Z2.l0_succ _ mk_ok]
    refine ev_f (by simp) (ev_some ?_)
    have : b = 0 := by simpa using h
    rw [this]

theorem compareSimplices_ret (a b : Sim) (ha : Sm yL a) : Ret E n_Z16 [dL a,dL b] ⟨o_Z16,(cmpS a b,())⟩ := by
  refine ret_of ?_
  simp only [run_Z16,Z16.ev]
  exact ev_call (Comparei_ret _ _) (ev_call (SliceCompare_ret a b ha) (ev_call (Or2_ret _ _) ev_rfl))

theorem l05Before_ret (a b : Sim) (ha : Sm yL a) : Ret E n_Z93 [dL a,dL b] ⟨o_Z93,(pb (cmpS a b < 0),())⟩ := by
  have ha1 : a.length ≤ 1048576 := ha.1
  refine ret_of ?_
  simp only [run_Z93,Z93.ev]
  refine ev_b (fun h => ev_some ?_) fun h => ?_
  · have h : (a.length : Int) ≠ b.length := by simpa using h
    rw [pb_dec,pb_congr (show (a.length : Int) < b.length ↔ cmpS a b < 0 by rw [cmpS_lt]; omega)]
  · have h : a.length = b.length := by have : (a.length : Int) = b.length := by simpa using h
                                       omega
    refine Ev.start (p := fun φ n => Z93.l0 (mkR (run E (φ 0))) (φ 0) n a b 0 = _) 1 ?_ (fun _ _ _ h => h)
    refine (loopR 1 (σ := Nat) (L := fun φ n k => Z93.l0 (mkR (run E (φ 0))) (φ 0) n a b (k : Int)) (fun _ _ _ _ => rfl) (fun k => k ≤ a.length) (fun k => some ⟨o_Z93,(pb (lexc (a.drop k) (b.drop k) < 0),())⟩) (fun k => a.length - k) (fun k hk ih => ?_) 0 (Nat.zero_le _)).to ?_
    · simp only [Z93.l0_succ _ mk_ok]
      refine ev_d (fun h1 => ?_) fun h1 => ?_
      · have hka : k < a.length := by omega
        have hkb : k < b.length := by omega
        have e := lexc_step hka hkb
        refine ev_bind (idx_lt hka) (ev_bind (idx_lt hkb) (ev_b (fun h3 => ?_) fun h3 => ?_))
        · refine ev_bind (idx_lt hka) (ev_bind (idx_lt hkb) (ev_some ?_))
          have h3 : a[k] ≠ b[k] := by simpa using h3
          rw [if_pos (by rw [Ne,cmp3_zero]; exact h3)] at e
          rw [e,pb_dec,pb_congr cmp3_lt]
        · have h3 : a[k] = b[k] := by simpa using h3
          rw [if_neg (by rw [Classical.not_not,cmp3_zero]; exact h3)] at e
          rw [w64_succ (by omega),e]
          exact ih (k + 1) (by show k + 1 ≤ _; omega) (by show a.length - (k + 1) < _; omega)
      · refine ev_some ?_
        have hk : k ≤ a.length := hk
        have e : k = a.length := by omega
        subst e
        rw [List.drop_of_length_le (l := a) (by omega),List.drop_of_length_le (l := b) (by omega),lexc,pb_false (by omega)]
    · refine congrArg (fun b : Bool => some (⟨o_Z93,(b,())⟩ : Dv)) (pb_congr ?_)
      simp only [List.drop_zero]; rw [cmpS_lt]; omega

end VeT

open Go Go.Proofs Ve
set_option linter.unusedVariables false
set_option linter.unusedSimpArgs false
namespace VeT

theorem getD_lt {α : Type} {s : List α} {k : Nat} {d : α} (h : k < s.length) : s.getD k d = s[k] := by simp [List.getD_eq_getElem?_getD,h]
theorem sm_get {t : Ty} {s : List t.T} (h : Sm (.sl t) s) {k : Nat} (hk : k < s.length) : Sm t s[k] := h.2 _ (List.getElem_mem hk)
theorem sm_ints {s : Sim} (h : s.length ≤ 1048576) : Sm yL s := ⟨h,fun _ _ => trivial⟩

theorem l00Own_ret (s : Sim) (hs : s.length ≤ 1048576) : Ret E n_Z86 [dL s] ⟨o_Z86,(s,())⟩ := by
  refine ret_of ?_
  simp only [run_Z86,Z86.ev]
  exact ev_chk (by simp; omega) (ev_some rfl)

theorem l05Drop_ret (s : Sim) (k : Nat) (hk : k < s.length) (hs : s.length ≤ 1048576) : Ret E n_Z94 [dL s,dI (k : Int)] ⟨o_Z94,(s.eraseIdx k,())⟩ := by
  refine ret_of ?_
  simp only [run_Z94,Z94.ev]
  rw [w64_succ (by omega)]
  simp only [Int.toNat_natCast]
  refine ev_chk (by simp; omega) (ev_call (l00Own_ret _ (by simp; omega)) (ev_chk (by simp; omega) (ev_chk (by simp; omega) (ev_some ?_))))
  rw [List.eraseIdx_eq_take_drop_succ]

theorem l00SameP_ret (a b : Sim) (ha : a.length ≤ 1048576) : Ret E n_Z88 [dL a,dL b] ⟨o_Z88,(pb (a = b),())⟩ := by
  refine ret_of ?_
  simp only [run_Z88,Z88.ev]
  refine ev_b (fun h => ev_some ?_) fun h => ?_
  · have h : (a.length : Int) ≠ b.length := by simpa using h
    rw [pb_false fun e => h (by rw [e])]
  · have h : (a.length : Int) = b.length := by simpa using h
    refine Ev.start (p := fun φ n => Z88.l0 (mkR (run E (φ 0))) (φ 0) n a b 0 = _) 1 ?_ (fun _ _ _ h => h)
    refine (all_pb 1 (L := fun φ n k => Z88.l0 (mkR (run E (φ 0))) (φ 0) n a b k) (len := a.length) 0 (by omega) (fun j => a.getD j 0 = b.getD j 0) (fun b => some ⟨o_Z88,(b,())⟩) (fun _ _ _ _ => rfl) (fun k h1 h2 hP _ => ?_) (fun k r h1 h2 hP _ ih => ?_) (fun _ => ?_)).to ?_
    · simp only [Z88.l0_succ _ mk_ok]
      have hb : k < b.length := by omega
      rw [getD_lt h2,getD_lt hb] at hP
      exact ev_t (decide_eq_true (by omega)) (ev_bind (idx_lt h2) (ev_bind (idx_lt hb) (ev_t (by simpa using hP) ev_rfl)))
    · simp only [Z88.l0_succ _ mk_ok]
      have hb : k < b.length := by omega
      rw [getD_lt h2,getD_lt hb] at hP
      refine ev_t (decide_eq_true (by omega)) (ev_bind (idx_lt h2) (ev_bind (idx_lt hb) (ev_f (by simpa using hP) ?_)))
      rw [w64_succ (by omega)]; exact ih
    · simp only [Z88.l0_succ _ mk_ok]
      exact ev_f (decide_eq_false (by omega)) ev_rfl
    · refine congrArg (fun b : Bool => some (⟨o_Z88,(b,())⟩ : Dv)) (pb_congr ⟨fun hh => List.ext_getElem (by omega) fun j h1 h2 => ?_,fun hh j _ _ => by rw [hh]⟩)
      have := hh j (by omega) h1
      rwa [getD_lt h1,getD_lt h2] at this

noncomputable def findI (c : List Sim) (s : Sim) : Int := idxf (fun x => pb (x = s)) c
theorem findI_nonneg {c : List Sim} {s : Sim} : 0 ≤ findI c s ↔ s ∈ c := by
  unfold findI
  rw [idxf_nonneg]
  simp only [pb_iff]
  exact ⟨fun ⟨x,h,e⟩ => e ▸ h,fun h => ⟨s,h,rfl⟩⟩

theorem l05Find_ret (c : Cpx) (s : Sim) (hc : Sm yK c.1) : Ret E n_Z96 [dC c,dL s] ⟨o_Z96,(findI c.1 s,())⟩ := by
  have hc1 : c.1.length ≤ 1048576 := hc.1
  obtain ⟨o,h1,h2,h3⟩ := find_loop 1 (L := fun φ n k => Z96.l0 (mkR (run E (φ 0))) (φ 0) n c s k) (len := c.1.length) (fun k => ∃ h : k < c.1.length,pb (c.1[k] = s) = true) (fun o => some ⟨o_Z96,(o2i o,())⟩) (fun _ _ _ _ => rfl) (fun k hk hP => by
      obtain ⟨_,hP⟩ := hP
      simp only [Z96.l0_succ _ mk_ok]
      refine ev_t (decide_eq_true (by omega)) (ev_bind (idx_lt hk) (ev_call (l00SameP_ret _ _ (sm_get hc hk).1) (ev_t hP ev_rfl)))) (fun k q hk hP ih => by
      simp only [Z96.l0_succ _ mk_ok]
      refine ev_t (decide_eq_true (by omega)) (ev_bind (idx_lt hk) (ev_call (l00SameP_ret _ _ (sm_get hc hk).1) (ev_f (Bool.eq_false_iff.2 fun h => hP ⟨hk,h⟩) ?_)))
      rw [w64_succ (by omega)]; exact ih) (by
      simp only [Z96.l0_succ _ mk_ok]
      exact ev_f (decide_eq_false (by omega)) ev_rfl)
  rw [idxf_of (p := fun x => pb (x = s)) h1 h2] at h3
  refine ret_of ?_
  simp only [run_Z96,Z96.ev]
  exact Ev.start (p := fun φ n => Z96.l0 (mkR (run E (φ 0))) (φ 0) n c s 0 = _) 1 h3 (fun _ _ _ h => h)

/-! joining,faces -/
theorem run_Grow (n : Nat) (args : List Dv) : run E (n + 1) n_Z73 args = pGrow yI (mkR (run E n)) args := rfl

theorem Grow_ret (s : Sim) (n : Int) (h0 : 0 ≤ n) (h1 : n ≤ 1048576) (hs : s.length ≤ 1048576) : Ret E n_Z73 [dL s,dI n] ⟨o_Z73,(s,())⟩ := by
  refine ret_of ?_
  simp only [run_Grow]
  refine ev_some ((if_pos (show 0 ≤ n ∧ ((List.length s : Int) + n) * (64 * (Ty.size (Ty.int IntKind.i64) : Int)) ≤ 70368744177664 from ⟨h0,?_⟩)).trans rfl)
  have : (Ty.size (Ty.int IntKind.i64)) = 1 := rfl
  rw [this]; omega

theorem Concat_ret (ll : List Sim) (hl : ll.length ≤ 1048576) (hf : ll.flatten.length ≤ 1048576) : Ret E n_Z65 [dLL ll] ⟨o_Z65,(ll.flatten,())⟩ := by
  have hle : ∀ k,(ll.take k).flatten.length ≤ ll.flatten.length := fun k => by
    have := congrArg List.length (congrArg List.flatten (List.take_append_drop k ll))
    rw [List.flatten_append,List.length_append] at this; omega
  have hst : ∀ k (h : k < ll.length),(ll.take (k + 1)).flatten = (ll.take k).flatten ++ ll[k] := fun k h => by
    rw [List.take_succ_eq_append_getElem h,List.flatten_append]; simp
  refine ret_of ?_
  simp only [run_Z65,Z65.ev]
  refine Ev.start (p := fun φ n => Z65.l0 (mkR (run E (φ 0))) (φ 0) n ll 0 ll (ll.length : Int) 0 = _) 1 ?_ (fun _ _ _ h => h)
  refine fold_loop 1 (L := fun φ n k a => Z65.l0 (mkR (run E (φ 0))) (φ 0) n ll a ll (ll.length : Int) k) (len := ll.length) (fun k => (((ll.take k).flatten.length : Nat) : Int)) (fun _ _ _ _ _ => rfl) (fun k r hk ih => ?_) ?_
  · simp only [Z65.l0_succ _ mk_ok]
    have := hle (k + 1)
    have e := hst k hk
    have e2 : w64 (((ll.take k).flatten.length : Nat) + (List.length (ll[k]) : Int)) = (((ll.take (k + 1)).flatten.length : Nat) : Int) := by
      rw [w64_small (by omega) (by rw [e,List.length_append] at this; omega),e,List.length_append]; omega
    refine ev_t (decide_eq_true (by omega)) (ev_bind (idx_lt hk) ?_)
    show Ev fun φ => (bif decide (w64 (((ll.take k).flatten.length : Nat) + (List.length (ll[k]) : Int)) < 0) then none else Z65.l0 (mkR (run E (φ 0))) (φ 0) (φ 1) ll (w64 (((ll.take k).flatten.length : Nat) + (List.length (ll[k]) : Int))) ll (ll.length : Int) (w64 ((k : Int) + 1))) = r
    rw [e2,w64_succ (by omega)]
    exact ev_f (decide_eq_false (by omega)) ih
  · simp only [Z65.l0_succ _ mk_ok]
    refine ev_f (decide_eq_false (by omega)) (ev_call (Grow_ret [] _ (by omega) (by have := hle ll.length; omega) (by simp)) ?_)
    refine Ev.start (p := fun φ n => Z65.l1 (mkR (run E (φ 0))) (φ 0) n ll (ll.length : Int) 0 [] = _) 2 ?_ (fun _ _ _ h => h)
    refine fold_loop 2 (L := fun φ n k a => Z65.l1 (mkR (run E (φ 0))) (φ 0) n ll (ll.length : Int) k a) (len := ll.length) (fun k => (ll.take k).flatten) (fun _ _ _ _ _ => rfl) (fun k r hk ih => ?_) ?_
    · simp only [Z65.l1_succ _ mk_ok]
      have := hle (k + 1)
      have e := hst k hk
      rw [e] at ih this
      rw [List.length_append] at this
      refine ev_t (decide_eq_true (by omega)) (ev_bind (idx_lt hk) (ev_chk (decide_eq_true (by show (_ + List.length ll[k]) * 8 ≤ _; omega)) ?_))
      rw [w64_succ (by omega)]
      exact ih
    · simp only [Z65.l1_succ _ mk_ok]
      refine ev_f (decide_eq_false (by omega)) (ev_some ?_)
      rw [List.take_of_length_le (Nat.le_refl _)]

def faces (s : Sim) : List Sim := if 1 < s.length then (List.range s.length).map (s.eraseIdx ·) else []

theorem faces_mem {s f : Sim} : f ∈ faces s ↔ 1 < s.length ∧ ∃ i,i < s.length ∧ f = s.eraseIdx i := by
  unfold faces
  split
  · rename_i h
    simp only [List.mem_map,List.mem_range,h,true_and]
    exact ⟨fun ⟨i,h1,h2⟩ => ⟨i,h1,h2.symm⟩,fun ⟨i,h1,h2⟩ => ⟨i,h1,h2.symm⟩⟩
  · rename_i h
    simp [h]

theorem faces_len {s f : Sim} (h : f ∈ faces s) : f.length + 1 = s.length := by
  obtain ⟨h1,i,h2,rfl⟩ := faces_mem.1 h
  rw [List.length_eraseIdx,if_pos h2]; omega

theorem faces_length {s : Sim} : (faces s).length ≤ s.length := by
  unfold faces; split <;> simp

theorem facesOf_ret (s : Sim) (hs : s.length ≤ 1048576) : Ret E n_Z21 [dL s] ⟨o_Z21,(faces s,())⟩ := by
  refine ret_of ?_
  simp only [run_Z21,Z21.ev]
  refine Ev.start (p := fun φ n => Z21.l0 (mkR (run E (φ 0))) (φ 0) n s (s.length : Int) 0 [] = _) 1 ?_ (fun _ _ _ h => h)
  by_cases h1 : 1 < s.length
  · refine fold_loop 1 (L := fun φ n k a => Z21.l0 (mkR (run E (φ 0))) (φ 0) n s (s.length : Int) k a) (len := s.length) (fun k => (List.range k).map (s.eraseIdx ·)) (fun _ _ _ _ _ => rfl) (fun k r hk ih => ?_) ?_
    · simp only [Z21.l0_succ _ mk_ok]
      rw [List.range_succ,List.map_append] at ih
      rw [w64_succ (by omega)]
      simp only [Int.toNat_natCast]
      refine ev_t (decide_eq_true (by omega)) (ev_t (decide_eq_true (by omega)) (ev_chk (by simp; omega) (ev_chk (by simp; omega) (ev_call (Concat_ret _ (by simp) (by simp; omega)) (ev_chk (by simp; omega) ?_)))))
      rw [show [s.take k,s.drop (k + 1)].flatten = s.eraseIdx k by simp [List.eraseIdx_eq_take_drop_succ]]
      exact ih
    · simp only [Z21.l0_succ _ mk_ok]
      exact ev_f (decide_eq_false (by omega)) (ev_some (by rw [faces,if_pos h1]))
  · refine fold_loop 1 (L := fun φ n k a => Z21.l0 (mkR (run E (φ 0))) (φ 0) n s (s.length : Int) k a) (len := s.length) (fun k => []) (fun _ _ _ _ _ => rfl) (fun k r hk ih => ?_) ?_
    · simp only [Z21.l0_succ _ mk_ok]
      rw [w64_succ (by omega)]
      exact ev_t (decide_eq_true (by omega)) (ev_f (decide_eq_false (by omega)) ih)
    · simp only [Z21.l0_succ _ mk_ok]
      exact ev_f (decide_eq_false (by omega)) (ev_some (by rw [faces,if_neg h1]))

/-! searching -/
def Srt (c : List Sim) : Prop := ∀ i j (h : j < c.length) (hij : i < j),cmpS c[i] c[j] < 0

theorem srt_of {c : List Sim} (h : ∀ k,1 ≤ k → k < c.length → cmpS (c.getD (k - 1) []) (c.getD k []) < 0) : Srt c := by
  intro i j
  induction j with
  | zero => intro _ h; omega
  | succ j ih =>
    intro hj hij
    have := h (j + 1) (by omega) hj
    rw [Nat.add_sub_cancel,getD_lt (by omega),getD_lt hj] at this
    by_cases e : i = j
    · subst e; exact this
    · exact cmpS_trans (ih (by omega) (by omega)) this

theorem Srt.take {c : List Sim} (h : Srt c) (k : Nat) : Srt (c.take k) := by
  intro i j hj hij
  rw [List.getElem_take,List.getElem_take]
  exact h i j (by rw [List.length_take] at hj; omega) hij

def bs (c : List Sim) (s : Sim) : Nat := c.findIdx (fun x => !decide (cmpS x s < 0))

theorem bs_le {c : List Sim} {s : Sim} : bs c s ≤ c.length := List.findIdx_le_length
theorem bs_lt {c : List Sim} {s : Sim} (hc : Srt c) {t : Nat} (h : t < c.length) : t < bs c s ↔ cmpS c[t] s < 0 := by
  constructor
  · intro ht
    have := List.not_of_lt_findIdx ht
    simpa using this
  · intro ht
    refine Classical.byContradiction fun hn => ?_
    have hb : bs c s < c.length := by omega
    have h1 : cmpS c[bs c s] s < 0 := by
      by_cases e : bs c s = t
      · simp only [e]; exact ht
      · exact cmpS_trans (hc _ _ h (by omega)) ht
    have := List.findIdx_getElem (w := hb)
    simp only [Bool.not_eq_true',decide_eq_false_iff_not] at this
    exact this h1

theorem bs_find {c : List Sim} {s : Sim} (hc : Srt c) : findI c s = if h : bs c s < c.length ∧ c.getD (bs c s) [] = s then (bs c s : Int) else -1 := by
  have e : c.findIdx? (fun x => pb (x = s)) = if bs c s < c.length ∧ c.getD (bs c s) [] = s then some (bs c s) else none := by
    split
    · rename_i h
      obtain ⟨h1,h2⟩ := h
      rw [List.findIdx?_eq_some_iff_getElem]
      rw [getD_lt h1] at h2
      refine ⟨h1,pb_true h2,fun j hj => ?_⟩
      rw [pb_iff]
      intro he
      have := (bs_lt (s := s) hc (show j < c.length by omega)).1 hj
      rw [he,cmpS_zero.2 rfl] at this
      omega
    · rename_i h
      rw [List.findIdx?_eq_none_iff]
      intro x hx
      rw [pb_not]
      rintro rfl
      obtain ⟨j,hj,rfl⟩ := List.mem_iff_getElem.1 hx
      have h0 : ¬ j < bs c c[j] := fun hlt => by
        have := (bs_lt hc hj).1 hlt
        rw [cmpS_zero.2 rfl] at this; omega
      by_cases hjb : bs c c[j] = j
      · exact h ⟨by omega,by rw [hjb,getD_lt hj]⟩
      · have hb : bs c c[j] < c.length := by omega
        have := (bs_lt (s := c[j]) hc hb).2 (hc _ _ hj (by omega))
        omega
  unfold findI idxf
  rw [e]
  split <;> rfl

theorem BinarySearch_ret (c : List Sim) (s : Sim) (hc : Sm yK c) (hs : Srt c) : Ret E n_Z60 [dLL c,dL s,⟨.fn n_Z16 .nil,()⟩] ⟨o_Z60,((bs c s : Int),pb (bs c s < c.length ∧ c.getD (bs c s) [] = s),())⟩ := by
  have hc1 : c.length ≤ 1048576 := hc.1
  refine ret_of ?_
  simp only [run_Z60,Z61.ev]
  refine Ev.start (p := fun φ n => Z61.l0 (mkR (run E (φ 0))) (φ 0) n c s (c.length : Int) 0 (c.length : Int) = _) 1 ?_ (fun _ _ _ h => h)
  refine loopR 1 (σ := Nat × Nat) (L := fun φ n st => Z61.l0 (mkR (run E (φ 0))) (φ 0) n c s (c.length : Int) (st.1 : Int) (st.2 : Int)) (fun _ _ _ _ => rfl) (fun st => st.1 ≤ bs c s ∧ bs c s ≤ st.2 ∧ st.2 ≤ c.length) (fun _ => _) (fun st => st.2 - st.1) (fun st hi ih => ?_) (0,c.length) ⟨Nat.zero_le _,bs_le,Nat.le_refl _⟩
  obtain ⟨i,j⟩ := st
  obtain ⟨h1,h2,h3⟩ := hi
  simp only at h1 h2 h3 ih
  simp only [Z61.l0_succ _ mk_ok]
  rw [half (by omega)]
  refine ev_d (fun hij => ?_) fun hij => ?_
  · have hh : (i + j) / 2 < c.length := by omega
    refine ev_chk (by decide) (ev_bind (idx_lt hh) (ev_call (compareSimplices_ret _ _ (sm_get hc hh)) (ev_d (fun hlt => ?_) fun hlt => ?_)))
    · rw [w64_succ (by omega)]
      have := (bs_lt hs hh).2 hlt
      exact ih ((i + j) / 2 + 1,j) ⟨this,h2,h3⟩ (by simp only; omega)
    · have : ¬ (i + j) / 2 < bs c s := fun h => hlt ((bs_lt hs hh).1 h)
      exact ih (i,(i + j) / 2) ⟨h1,by simp only; omega,by simp only; omega⟩ (by simp only; omega)
  · have e : i = bs c s := by omega
    subst e
    refine ev_d (fun hl => ?_) fun hl => ev_some ?_
    · have hh : bs c s < c.length := by omega
      refine ev_bind (idx_lt hh) (ev_call (compareSimplices_ret _ _ (sm_get hc hh)) (ev_some ?_))
      have : (cmpS c[bs c s] s == 0) = pb (bs c s < c.length ∧ c.getD (bs c s) [] = s) := eq_pb (by
        rw [getD_lt hh,beq_iff_eq,cmpS_zero]; exact ⟨fun h => ⟨hh,h⟩,fun h => h.2⟩)
      rw [this]
    · rw [pb_false fun h => hl (by omega)]

theorem indexOf_ret (c : List Sim) (s : Sim) (hc : Sm yK c) (hs : Srt c) : Ret E n_Z25 [dLL c,dL s] ⟨o_Z25,(findI c s,())⟩ := by
  refine ret_of ?_
  simp only [run_Z25,Z25.ev]
  refine ev_call (BinarySearch_ret c s hc hs) (ev_b (fun h => ev_some ?_) fun h => ev_some ?_)
  · rw [bs_find hs,dif_neg (pb_not.1 (by simpa using h))]
  · rw [bs_find hs,dif_pos (pb_iff.1 (by simpa using h))]

end VeT

open Go Go.Proofs Ve
set_option linter.unusedVariables false
set_option linter.unusedSimpArgs false
namespace VeT

/-- valid complexes -/
def VC (c : List Sim) : Prop := c.length ≤ 48 ∧ (∀ k,k < c.length → Vx (c.getD k [])) ∧ (∀ k,1 ≤ k → k < c.length → cmpS (c.getD (k - 1) []) (c.getD k []) < 0) ∧ ∀ k,k < c.length → ∀ f ∈ faces (c.getD k []),f ∈ c

theorem VC.srt {c : List Sim} (h : VC c) : Srt c := srt_of h.2.2.1

def VCimpl (c : List Sim) (k : Nat) : Prop := (Vx (c.getD k []) ∧ (1 ≤ k → cmpS (c.getD (k - 1) []) (c.getD k []) < 0)) ∧ ∀ f ∈ faces (c.getD k []),f ∈ c.take k

theorem VC_impl {c : List Sim} : ((∀ k,0 ≤ k → k < c.length → VCimpl c k) ∧ c.length ≤ 48) ↔ VC c := by
  constructor
  · rintro ⟨h,hl⟩
    exact ⟨hl,fun k hk => (h k (by omega) hk).1.1,fun k h1 hk => (h k (by omega) hk).1.2 h1,fun k hk f hf => List.mem_of_mem_take ((h k (by omega) hk).2 f hf)⟩
  · intro h
    have hs := h.srt
    obtain ⟨hl,h1,h2,h3⟩ := h
    refine ⟨fun k _ hk => ⟨⟨h1 k hk,fun hk1 => h2 k hk1 hk⟩,fun f hf => ?_⟩,hl⟩
    have hm := h3 k hk f hf
    have hlen := faces_len hf
    rw [getD_lt hk] at hlen
    obtain ⟨i,hi,rfl⟩ := List.mem_iff_getElem.1 hm
    have hlt : cmpS c[i] c[k] < 0 := cmpS_lt.2 (.inl (by omega))
    have hik : i < k := Classical.byContradiction fun hn => by
      by_cases e : i = k
      · subst e; omega
      · have := hs k i hi (by omega)
        rw [cmpS_neg] at this; omega
    exact List.mem_iff_getElem.2 ⟨i,by rw [List.length_take]; omega,by rw [List.getElem_take]⟩

theorem sm_take {t : Ty} {s : List t.T} (h : Sm (.sl t) s) (k : Nat) : Sm (.sl t) (s.take k) := ⟨by have h1 : s.length ≤ 1048576 := h.1; show (s.take k).length ≤ _; rw [List.length_take]; omega,fun x hx => h.2 x (List.mem_of_mem_take hx)⟩

theorem ValidComplex_1_ret (c : List Sim) (f : Sim) (k : Nat) (hk : k ≤ c.length) (hc : Sm yK c) (hs : Srt (c.take k)) :
    Ret E n_Z9 [dL f,dC (c,()),⟨.ptr (.cons yI .nil),((k : Int),())⟩] ⟨o_Z9,(pb (¬ f ∈ c.take k),())⟩ := by
  refine ret_of ?_
  simp only [run_Z9,Z9.ev]
  simp only [Int.toNat_natCast]
  refine ev_chk (by simp; omega) (ev_call (indexOf_ret _ f (sm_take hc k) hs) (ev_some ?_))
  simp only [pb_dec,pb_congr (show findI (c.take k) f < 0 ↔ ¬ f ∈ c.take k by rw [← findI_nonneg]; omega)]

theorem ValidComplex_ret (c : List Sim) (hc : Sm yK c) : Ret E n_Z8 [dLL c] ⟨o_Z8,(pb (VC c),())⟩ := by
  have hc1 : c.length ≤ 1048576 := hc.1
  refine ret_of ?_
  simp only [run_Z8,Z8.ev]
  refine Ev.start (p := fun φ n => Z8.l0 (mkR (run E (φ 0))) (φ 0) n c (c.length : Int) 0 c = _) 1 ?_ (fun _ _ _ h => h)
  have key : ∀ (n : Nat) (k : Nat) (hk : k < c.length) (hpre : ∀ j,0 ≤ j → j < k → VCimpl c j),Srt (c.take k) := fun n k hk hpre => srt_of fun j h1 h2 => by
    rw [List.length_take] at h2
    have := (hpre j (by omega) (by omega)).1.2 h1
    rw [getD_lt (by omega),getD_lt (by omega)] at this
    rw [getD_lt (by rw [List.length_take]; omega),getD_lt (by rw [List.length_take]; omega),List.getElem_take,List.getElem_take]
    exact this
  have hcon : ∀ (k : Nat) (hk : k < c.length) (hpre : ∀ j,0 ≤ j → j < k → VCimpl c j),Ret E n_Z66 [dLL (faces c[k]),⟨.fn n_Z9 (.cons (.ptr (.cons yK .nil)) (.cons (.ptr (.cons yI .nil)) .nil)),((c,()),((k : Int),()),())⟩] ⟨o_Z66,(pb (∃ x ∈ faces c[k],pb (¬ x ∈ c.take k) = true),())⟩ := fun k hk hpre =>
    ContainsFunc_SSint64_Sint64_impl_ValidComplex_1_ret (faces c[k]) ((c,()),((k : Int),()),()) _ (Nat.le_trans faces_length (sm_get hc hk).1) fun x hx => ValidComplex_1_ret c x k (by omega) hc (key 0 k hk hpre)
  refine (all_pb 1 (L := fun φ n k => Z8.l0 (mkR (run E (φ 0))) (φ 0) n c (c.length : Int) k c) (len := c.length) 0 (by omega) (VCimpl c) (fun b => some ⟨o_Z8,(b && decide ((c.length : Int) ≤ 48),())⟩) (fun _ _ _ _ => rfl) (fun k h1 h2 hP hpre => ?_) (fun k r h1 h2 hP hpre ih => ?_) (fun _ => ?_)).to ?_
  · simp only [Z8.l0_succ _ mk_ok]
    refine ev_t (decide_eq_true (by omega)) (ev_bind (idx_lt h2) (ev_call (ValidSimplex_ret _ (sm_get hc h2)) ?_))
    refine ev_b (fun hv => ?_) fun hv => ?_
    · simp only [Z8.j1_eq _ mk_ok,cond_true]; (first | exact ev_rfl | exact Ev.of fun _ => trivial)
    · have hv : Vx c[k] := pb_iff.1 (by simpa using hv)
      have last : (1 ≤ k → cmpS (c.getD (k - 1) []) (c.getD k []) < 0) → Ev fun φ => Z8.j1 (mkR (run E (φ 0))) (φ 0) (φ 1) c[k] c (c.length : Int) (k : Int) false c (k : Int) = some ⟨o_Z8,(false,())⟩ := fun hcm => by
        simp only [Z8.j1_eq _ mk_ok,cond_false]
        refine ev_call (facesOf_ret _ (sm_get hc h2).1) (ev_call (hcon k h2 hpre) (ev_t ?_ ev_rfl))
        refine pb_true (Classical.byContradiction fun hn => hP ⟨⟨by rw [getD_lt h2]; exact hv,hcm⟩,fun f hf => Classical.byContradiction fun hnf => hn ⟨f,by rw [getD_lt h2] at hf; exact hf,pb_true hnf⟩⟩)
      refine ev_d (fun hk => ?_) fun hk => ?_
      · rw [w64_small (by omega) (by omega),show ((k : Int) - 1) = ((k - 1 : Nat) : Int) by omega]
        have hk1 : k - 1 < c.length := by omega
        refine ev_bind (idx_lt hk1) (ev_call (compareSimplices_ret _ _ (sm_get hc hk1)) ?_)
        by_cases hcm : cmpS c[k - 1] c[k] < 0
        · simp only [show decide (cmpS c[k - 1] c[k] ≥ 0) = false from decide_eq_false (by omega)]
          exact last fun _ => by rw [getD_lt hk1,getD_lt h2]; exact hcm
        · simp only [show decide (cmpS c[k - 1] c[k] ≥ 0) = true from decide_eq_true (by omega),Z8.j1_eq _ mk_ok,cond_true]
          (first | exact ev_rfl | exact Ev.of fun _ => trivial)
      · exact last fun h => absurd h (by omega)
  · simp only [Z8.l0_succ _ mk_ok]
    have hP' := hP
    obtain ⟨⟨hv,hcm⟩,hfc⟩ := hP'
    rw [getD_lt h2] at hv hfc
    refine ev_t (decide_eq_true (by omega)) (ev_bind (idx_lt h2) (ev_call (ValidSimplex_ret _ (sm_get hc h2)) (ev_f (by rw [pb_true hv]; rfl) ?_)))
    have last : Ev fun φ => Z8.j1 (mkR (run E (φ 0))) (φ 0) (φ 1) c[k] c (c.length : Int) (k : Int) false c (k : Int) = r := by
      simp only [Z8.j1_eq _ mk_ok,cond_false]
      refine ev_call (facesOf_ret _ (sm_get hc h2).1) (ev_call (hcon k h2 hpre) (ev_f ?_ ?_))
      · exact pb_false fun ⟨x,hx,hn⟩ => pb_iff.1 hn (hfc x hx)
      · rw [w64_succ (by omega)]; exact ih
    refine ev_d (fun hk => ?_) fun hk => last
    rw [w64_small (by omega) (by omega),show ((k : Int) - 1) = ((k - 1 : Nat) : Int) by omega]
    have hk1 : k - 1 < c.length := by omega
    have hcm := hcm (by omega)
    rw [getD_lt hk1,getD_lt h2] at hcm
    refine ev_bind (idx_lt hk1) (ev_call (compareSimplices_ret _ _ (sm_get hc hk1)) ?_)
    simp only [show decide (cmpS c[k - 1] c[k] ≥ 0) = false from decide_eq_false (by omega)]
    exact last
  · simp only [Z8.l0_succ _ mk_ok]
    exact ev_f (decide_eq_false (by omega)) (ev_some (by rw [Bool.true_and]))
  · have : (pb (∀ j,0 ≤ j → j < c.length → VCimpl c j) && decide ((c.length : Int) ≤ 48)) = pb (VC c) := eq_pb (by
      rw [Bool.and_eq_true,pb_iff,decide_eq_true_iff,← VC_impl]
      exact ⟨fun h => ⟨h.1,by omega⟩,fun h => ⟨h.1,by omega⟩⟩)
    rw [this]

def VCspec (c : List Sim) (k : Nat) : Prop := (Vx (c.getD k []) ∧ (1 ≤ k → cmpS (c.getD (k - 1) []) (c.getD k []) < 0)) ∧ ∀ f ∈ faces (c.getD k []),f ∈ c

theorem l05Ok_ret (c : Cpx) (hc : Sm yK c.1) : Ret E n_Z98 [dC c] ⟨o_Z98,(pb (VC c.1),())⟩ := by
  have hc1 : c.1.length ≤ 1048576 := hc.1
  refine ret_of ?_
  simp only [run_Z98,Z98.ev]
  refine ev_d (fun h => ev_some ?_) fun h48 => ?_
  · rw [pb_false fun hv => by have := hv.1; omega]
  refine Ev.start (p := fun φ n => Z98.l0 (mkR (run E (φ 0))) (φ 0) n c 0 = _) 1 ?_ (fun _ _ _ h => h)
  -- the inner loop
  have inner : ∀ (k : Nat) (h2 : k < c.1.length) (r : Option Dv),((∀ f ∈ faces c.1[k],f ∈ c.1) → Ev fun φ => Z98.l0 (mkR (run E (φ 0))) (φ 0) (φ 1) c ((k + 1 : Nat) : Int) = r) → (¬ (∀ f ∈ faces c.1[k],f ∈ c.1) → r = some ⟨o_Z98,(false,())⟩) → Ev fun φ => Z98.l2 (mkR (run E (φ 0))) (φ 0) (φ 1) (φ 0) c (k : Int) c.1[k] 0 = r := fun k h2 r hgo hstop => by
    have hks : (c.1[k]).length ≤ 1048576 := (sm_get hc h2).1
    refine Ev.start (p := fun φ n => Z98.l2 (mkR (run E (φ 0))) (φ 0) (φ 1) n c (k : Int) c.1[k] 0 = _) 2 ?_ (fun _ _ _ h => h)
    by_cases hlen : 1 < (c.1[k]).length
    · obtain ⟨t,f⟩ := all_loop 2 (L := fun φ n i => Z98.l2 (mkR (run E (φ 0))) (φ 0) (φ 1) n c (k : Int) c.1[k] i) (len := (c.1[k]).length) 0 (by omega) (fun i => (c.1[k]).eraseIdx i ∈ c.1) (rt := r) (rf := some ⟨o_Z98,(false,())⟩) (fun _ _ _ _ => rfl) (fun i _ hi hP _ => by
        simp only [Z98.l2_succ _ mk_ok]
        refine ev_t (decide_eq_true (by omega)) ?_
        simp only [show decide (((c.1[k]).length : Int) > 1) = true from decide_eq_true (by omega),Z98.j3_eq _ mk_ok,cond_true]
        refine ev_call (l05Drop_ret _ i hi hks) (ev_call (l05Find_ret c _ hc) (ev_t (decide_eq_true ?_) ev_rfl))
        have hq := mt (findI_nonneg (c := c.1) (s := (c.1[k]).eraseIdx i)).1 hP; simp only; exact Int.not_le.1 hq) (fun i q _ hi hP _ ih => by
        simp only [Z98.l2_succ _ mk_ok]
        refine ev_t (decide_eq_true (by omega)) ?_
        simp only [show decide (((c.1[k]).length : Int) > 1) = true from decide_eq_true (by omega),Z98.j3_eq _ mk_ok,cond_true]
        refine ev_call (l05Drop_ret _ i hi hks) (ev_call (l05Find_ret c _ hc) (ev_f (decide_eq_false ?_) ?_))
        · have hq := (findI_nonneg (c := c.1) (s := (c.1[k]).eraseIdx i)).2 hP; simp only; exact Int.not_lt.2 hq
        · rw [w64_succ (by omega)]; exact ih) (fun hall => by
        simp only [Z98.l2_succ _ mk_ok]
        refine ev_f (decide_eq_false (by omega)) ?_
        simp only [Z98.j3_eq _ mk_ok,cond_false]
        rw [w64_succ (by omega)]
        exact hgo fun f hf => by
          obtain ⟨_,i,hi,rfl⟩ := faces_mem.1 hf
          exact hall i (by omega) hi)
      by_cases hall : ∀ i,0 ≤ i → i < (c.1[k]).length → (c.1[k]).eraseIdx i ∈ c.1
      · exact t hall
      · rw [hstop fun hf => hall fun i _ hi => hf _ (faces_mem.2 ⟨hlen,i,hi,rfl⟩)]
        exact f hall
    · refine Ev.round 2 (L := fun φ n => Z98.l2 (mkR (run E (φ 0))) (φ 0) (φ 1) n c (k : Int) c.1[k] 0) ?_ (fun _ _ _ => rfl)
      have hgo := hgo fun f hf => absurd (faces_mem.1 hf).1 hlen
      have hj : Ev fun φ => Z98.j3 (mkR (run E (φ 0))) (φ 0) (φ 1) (φ 2) c (k : Int) c.1[k] 0 false = r := by
        simp only [Z98.j3_eq _ mk_ok,cond_false]
        rw [w64_succ (by omega)]; exact hgo
      simp only [Z98.l2_succ _ mk_ok]
      refine ev_d (fun _ => ?_) fun _ => hj
      simp only [show decide (((c.1[k]).length : Int) > 1) = false from decide_eq_false (by omega)]
      exact hj
  refine (all_pb 1 (L := fun φ n k => Z98.l0 (mkR (run E (φ 0))) (φ 0) n c k) (len := c.1.length) 0 (by omega) (VCspec c.1) (fun b => some ⟨o_Z98,(b,())⟩) (fun _ _ _ _ => rfl) (fun k h1 h2 hP hpre => ?_) (fun k r h1 h2 hP hpre ih => ?_) (fun _ => ?_)).to ?_
  · simp only [Z98.l0_succ _ mk_ok]
    refine ev_t (decide_eq_true (by omega)) (ev_bind (idx_lt h2) (ev_call (l05Simplex_ret _ (sm_get hc h2)) ?_))
    refine ev_b (fun hv => ?_) fun hv => ?_
    · simp only [Z98.j1_eq _ mk_ok,cond_true]; (first | exact ev_rfl | exact Ev.of fun _ => trivial)
    · have hv : Vx c.1[k] := pb_iff.1 (by simpa using hv)
      have last : (1 ≤ k → cmpS (c.1.getD (k - 1) []) (c.1.getD k []) < 0) → Ev fun φ => Z98.j1 (mkR (run E (φ 0))) (φ 0) (φ 1) c (k : Int) c.1[k] false = some ⟨o_Z98,(false,())⟩ := fun hcm => by
        simp only [Z98.j1_eq _ mk_ok,cond_false]
        refine inner k h2 _ (fun hf => absurd ⟨⟨by rw [getD_lt h2]; exact hv,hcm⟩,by rw [getD_lt h2]; exact hf⟩ hP) fun _ => rfl
      refine ev_d (fun hk => ?_) fun hk => ?_
      · rw [w64_small (by omega) (by omega),show ((k : Int) - 1) = ((k - 1 : Nat) : Int) by omega]
        have hk1 : k - 1 < c.1.length := by omega
        refine ev_bind (idx_lt hk1) (ev_call (l05Before_ret _ _ (sm_get hc hk1)) ?_)
        by_cases hcm : cmpS c.1[k - 1] c.1[k] < 0
        · simp only [pb_true hcm]
          exact last fun _ => by rw [getD_lt hk1,getD_lt h2]; exact hcm
        · simp only [pb_false hcm,Z98.j1_eq _ mk_ok,cond_true,Bool.not_false]
          (first | exact ev_rfl | exact Ev.of fun _ => trivial)
      · exact last fun h => absurd h (by omega)
  · simp only [Z98.l0_succ _ mk_ok]
    obtain ⟨⟨hv,hcm⟩,hfc⟩ := hP
    rw [getD_lt h2] at hv hfc
    refine ev_t (decide_eq_true (by omega)) (ev_bind (idx_lt h2) (ev_call (l05Simplex_ret _ (sm_get hc h2)) (ev_f (by rw [pb_true hv]; rfl) ?_)))
    have last : Ev fun φ => Z98.j1 (mkR (run E (φ 0))) (φ 0) (φ 1) c (k : Int) c.1[k] false = r := by
      simp only [Z98.j1_eq _ mk_ok,cond_false]
      exact inner k h2 _ (fun _ => ih) fun hn => absurd hfc hn
    refine ev_d (fun hk => ?_) fun hk => last
    rw [w64_small (by omega) (by omega),show ((k : Int) - 1) = ((k - 1 : Nat) : Int) by omega]
    have hk1 : k - 1 < c.1.length := by omega
    have hcm := hcm (by omega)
    rw [getD_lt hk1,getD_lt h2] at hcm
    refine ev_bind (idx_lt hk1) (ev_call (l05Before_ret _ _ (sm_get hc hk1)) ?_)
    simp only [pb_true hcm,Bool.not_true]
    exact last
  · simp only [Z98.l0_succ _ mk_ok]
    exact ev_f (decide_eq_false (by omega)) ev_rfl
  · have : pb (∀ j,0 ≤ j → j < c.1.length → VCspec c.1 j) = pb (VC c.1) := pb_congr
      ⟨fun h => ⟨by omega,fun k hk => (h k (by omega) hk).1.1,fun k h1 hk => (h k (by omega) hk).1.2 h1,fun k hk => (h k (by omega) hk).2⟩,
       fun h k _ hk => ⟨⟨h.2.1 k hk,fun h1 => h.2.2.1 k h1 hk⟩,h.2.2.2 k hk⟩⟩
    rw [this]

end VeT

open Go Go.Proofs Ve
set_option linter.unusedVariables false
set_option linter.unusedSimpArgs false
namespace VeT

/-- primes up to 251 -/
def Pr (p : Int) : Prop := 2 ≤ p ∧ p ≤ 251 ∧ ∀ k : Nat,2 ≤ k → (k : Int) * k ≤ p → p % k ≠ 0

theorem ValidPrime_ret (p : Int) : Ret E n_Z10 [dI p] ⟨o_Z10,(pb (Pr p),())⟩ := by
  refine ret_of ?_
  simp only [run_Z10,Z10.ev]
  refine ev_call (within_ret _ _ _) (ev_b (fun h => ev_some ?_) fun h => ?_)
  · have h : ¬ (2 ≤ p ∧ p ≤ 251) := pb_not.1 (by simpa using h)
    rw [pb_false fun hp => h ⟨hp.1,hp.2.1⟩]
  have hr : 2 ≤ p ∧ p ≤ 251 := pb_iff.1 (by simpa using h)
  refine Ev.start (p := fun φ n => Z10.l0 (mkR (run E (φ 0))) (φ 0) n p 2 = _) 1 ?_ (fun _ _ _ h => h)
  refine loopR 1 (σ := Nat) (L := fun φ n k => Z10.l0 (mkR (run E (φ 0))) (φ 0) n p (k : Int)) (fun _ _ _ _ => rfl) (fun k => 2 ≤ k ∧ k ≤ 17 ∧ ∀ j : Nat,2 ≤ j → j < k → (j : Int) * j ≤ p → p % j ≠ 0) (fun _ => _) (fun k => 17 - k) (fun k ⟨h1,h2,h3⟩ ih => ?_) 2 ⟨by omega,by omega,fun j _ _ => by omega⟩
  simp only [Z10.l0_succ _ mk_ok]
  have hkk : 0 ≤ (k : Int) * k ∧ (k : Int) * k ≤ 289 := ⟨Int.mul_nonneg (by omega) (by omega),by have := Nat.mul_le_mul h2 h2; omega⟩
  have e : w64 ((k : Int) * k) = (k : Int) * k := w64_small (by omega) (by omega)
  simp only [e]
  refine ev_d (fun hle => ?_) fun hle => ev_some ?_
  · have hk16 : k < 16 := Classical.byContradiction fun hn => by
      have := Nat.mul_le_mul (show 16 ≤ k by omega) (show 16 ≤ k by omega); omega
    refine ev_chk (by simp; omega) ?_
    rw [Int.tmod_eq_emod_of_nonneg (by omega)]
    refine ev_b (fun h0 => ev_some ?_) fun h0 => ?_
    · rw [pb_false fun hp => hp.2.2 k h1 hle (by simpa using h0)]
    · rw [w64_succ (by omega)]
      refine ih (k + 1) ⟨by omega,by omega,fun j hj1 hj2 hj3 => ?_⟩ (by show 17 - (k + 1) < 17 - k; omega)
      by_cases hjk : j = k
      · subst hjk; simpa using h0
      · exact h3 j hj1 (by omega) hj3
  · rw [pb_true]
    refine ⟨hr.1,hr.2,fun j hj1 hj2 => ?_⟩
    by_cases hjk : j < k
    · exact h3 j hj1 hjk hj2
    · exfalso
      have := Nat.mul_le_mul (show k ≤ j by omega) (show k ≤ j by omega); omega

theorem l02Prime_ret (p : Int) : Ret E n_Z89 [dI p] ⟨o_Z89,(pb (Pr p),())⟩ := by
  refine ret_of ?_
  simp only [run_Z89,Z89.ev]
  refine ev_call (l00In_ret _ _ _) (ev_b (fun h => ev_some ?_) fun h => ?_)
  · have h : ¬ (2 ≤ p ∧ p ≤ 251) := pb_not.1 (by simpa using h)
    rw [pb_false fun hp => h ⟨hp.1,hp.2.1⟩]
  have hr : 2 ≤ p ∧ p ≤ 251 := pb_iff.1 (by simpa using h)
  refine Ev.start (p := fun φ n => Z89.l0 (mkR (run E (φ 0))) (φ 0) n p 2 = _) 1 ?_ (fun _ _ _ h => h)
  refine loopR 1 (σ := Nat) (L := fun φ n k => Z89.l0 (mkR (run E (φ 0))) (φ 0) n p (k : Int)) (fun _ _ _ _ => rfl) (fun k => 2 ≤ k ∧ k ≤ 17 ∧ ∀ j : Nat,2 ≤ j → j < k → (j : Int) * j ≤ p → p % j ≠ 0) (fun _ => _) (fun k => 17 - k) (fun k ⟨h1,h2,h3⟩ ih => ?_) 2 ⟨by omega,by omega,fun j _ _ => by omega⟩
  simp only [Z89.l0_succ _ mk_ok]
  have hkk : 0 ≤ (k : Int) * k ∧ (k : Int) * k ≤ 289 := ⟨Int.mul_nonneg (by omega) (by omega),by have := Nat.mul_le_mul h2 h2; omega⟩
  have e : w64 ((k : Int) * k) = (k : Int) * k := w64_small (by omega) (by omega)
  simp only [e]
  refine ev_d (fun hle => ?_) fun hle => ev_some ?_
  · have hk16 : k < 16 := Classical.byContradiction fun hn => by
      have := Nat.mul_le_mul (show 16 ≤ k by omega) (show 16 ≤ k by omega); omega
    refine ev_chk (by simp; omega) ?_
    rw [Int.tmod_eq_emod_of_nonneg (by omega)]
    refine ev_b (fun h0 => ev_some ?_) fun h0 => ?_
    · rw [pb_false fun hp => hp.2.2 k h1 hle (by simpa using h0)]
    · rw [w64_succ (by omega)]
      refine ih (k + 1) ⟨by omega,by omega,fun j hj1 hj2 hj3 => ?_⟩ (by show 17 - (k + 1) < 17 - k; omega)
      by_cases hjk : j = k
      · subst hjk; simpa using h0
      · exact h3 j hj1 (by omega) hj3
  · rw [pb_true]
    refine ⟨hr.1,hr.2,fun j hj1 hj2 => ?_⟩
    by_cases hjk : j < k
    · exact h3 j hj1 hjk hj2
    · exfalso
      have := Nat.mul_le_mul (show k ≤ j by omega) (show k ≤ j by omega); omega

theorem specValidPrime_ret (p : Int) : Ret E n_Z83 [dI p] ⟨o_Z83,(pb (Pr p),())⟩ := by
  refine ret_of ?_
  simp only [run_Z83,Z83.ev]
  exact ev_call (l02Prime_ret p) ev_rfl

/-! matrices -/
def Elems (v : Sim) (p : Int) : Prop := ∀ x ∈ v,0 ≤ x ∧ x ≤ p - 1

theorem none_bad {α : Type} {s : List α} {P : α → Prop} : (!pb (∃ x ∈ s,(!pb (P x)) = true)) = pb (∀ x ∈ s,P x) := eq_pb (by
  simp only [Bool.not_eq_true',pb_not]
  exact ⟨fun h x hx => Classical.byContradiction fun hn => h ⟨x,hx,hn⟩,fun h ⟨x,hx,hn⟩ => hn (h x hx)⟩)

theorem l03Column_ret (v : Sim) (n p : Int) (hv : v.length ≤ 1048576) (hp : 0 ≤ p ∧ p ≤ 1048576) : Ret E n_Z90 [dL v,dI n,dI p] ⟨o_Z90,(pb (Elems v p ∧ (v.length : Int) = n),())⟩ := by
  have e : w64 (p - 1) = p - 1 := w64_small (by omega) (by omega)
  refine ret_of ?_
  simp only [run_Z90,Z90.ev]
  refine Ev.start (p := fun φ n' => Z90.l0 (mkR (run E (φ 0))) (φ 0) n' v n p 0 = _) 1 ?_ (fun _ _ _ h => h)
  refine (all_pb 1 (L := fun φ n' k => Z90.l0 (mkR (run E (φ 0))) (φ 0) n' v n p k) (len := v.length) 0 (by omega) (fun j => 0 ≤ v.getD j 0 ∧ v.getD j 0 ≤ p - 1) (fun b => some ⟨o_Z90,(b && ((v.length : Int) == n),())⟩) (fun _ _ _ _ => rfl) (fun k h1 h2 hP _ => ?_) (fun k r h1 h2 hP _ ih => ?_) (fun _ => ?_)).to ?_
  · simp only [Z90.l0_succ _ mk_ok,e]
    rw [getD_lt h2] at hP
    exact ev_t (decide_eq_true (by omega)) (ev_bind (idx_lt h2) (ev_call (l00In_ret _ _ _) (ev_t (by rw [pb_false hP]; rfl) ev_rfl)))
  · simp only [Z90.l0_succ _ mk_ok,e]
    rw [getD_lt h2] at hP
    refine ev_t (decide_eq_true (by omega)) (ev_bind (idx_lt h2) (ev_call (l00In_ret _ _ _) (ev_f (by rw [pb_true hP]; rfl) ?_)))
    rw [w64_succ (by omega)]; exact ih
  · simp only [Z90.l0_succ _ mk_ok]
    exact ev_f (decide_eq_false (by omega)) (ev_some (by rw [Bool.true_and]))
  · have : (pb (∀ j,0 ≤ j → j < v.length → 0 ≤ v.getD j 0 ∧ v.getD j 0 ≤ p - 1) && ((v.length : Int) == n)) = pb (Elems v p ∧ (v.length : Int) = n) := eq_pb (by
      rw [Bool.and_eq_true,pb_iff,beq_iff_eq]
      refine and_congr_left' ⟨fun h x hx => ?_,fun h j _ hj => ?_⟩
      · obtain ⟨j,hj,rfl⟩ := List.mem_iff_getElem.1 hx
        have := h j (by omega) hj
        rwa [getD_lt hj] at this
      · rw [getD_lt hj]; exact h _ (List.getElem_mem hj))
    rw [this]

theorem sizeI_ret (s : Sim) : Ret E n_Z32 [dL s] ⟨o_Z32,((s.length : Int),())⟩ := by
  refine ret_of ?_
  simp only [run_Z32,Z32.ev]
  (first | exact ev_rfl | exact Ev.of fun _ => trivial)

theorem sizeL_ret (s : List Sim) : Ret E n_Z31 [dLL s] ⟨o_Z31,((s.length : Int),())⟩ := by
  refine ret_of ?_
  simp only [run_Z31,Z31.ev]
  (first | exact ev_rfl | exact Ev.of fun _ => trivial)

/-- valid matrices -/
def VM (m : Mat) : Prop := Pr m.1 ∧ (0 ≤ m.2.1 ∧ m.2.1 ≤ 32) ∧ (0 ≤ m.2.2.1 ∧ m.2.2.1 ≤ 32) ∧ (m.2.2.2.1.length : Int) = m.2.1 * m.2.2.1 ∧ Elems m.2.2.2.1 m.1

def Bt (m : Mat) (p f t : Int) : Prop := VM m ∧ m.1 = p ∧ m.2.1 = t ∧ m.2.2.1 = f

/-! stalks -/
def ofDim (c : List Sim) (d : Int) (k : Nat) : List Int := ((List.range k).filter fun i => decide (((c.getD i []).length : Int) = d + 1)).map Int.ofNat

theorem ofDim_succ (c : List Sim) (d : Int) (k : Nat) : ofDim c d (k + 1) = ofDim c d k ++ if ((c.getD k []).length : Int) = d + 1 then [(k : Int)] else [] := by
  unfold ofDim
  rw [List.range_succ,List.filter_append,List.map_append]
  congr 1
  by_cases h : ((c.getD k []).length : Int) = d + 1
  · rw [if_pos h,List.filter_cons_of_pos (by simpa using h)]; rfl
  · rw [if_neg h,List.filter_cons_of_neg (by simpa using h)]; rfl

theorem ofDim_length (c : List Sim) (d : Int) (k : Nat) : (ofDim c d k).length ≤ k := by
  unfold ofDim
  rw [List.length_map]
  exact Nat.le_trans (List.length_filter_le _ _) (by simp)

theorem ofDim_mem {c : List Sim} {d : Int} {k : Nat} {x : Int} (h : x ∈ ofDim c d k) : ∃ i : Nat,x = i ∧ i < k := by
  unfold ofDim at h
  rw [List.mem_map] at h
  obtain ⟨i,hi,rfl⟩ := h
  exact ⟨i,rfl,by have := (List.mem_filter.1 hi).1; simpa using this⟩

theorem simplicesOf_ret (c : List Sim) (d : Int) (hc : Sm yK c) (hd : -1 ≤ d ∧ d ≤ 1048576) : Ret E n_Z30 [dLL c,dI d] ⟨o_Z30,(ofDim c d c.length,())⟩ := by
  have hc1 : c.length ≤ 1048576 := hc.1
  have hd1 : w64 (d + 1) = d + 1 := w64_small (by omega) (by omega)
  refine ret_of ?_
  simp only [run_Z30,Z30.ev]
  refine Ev.start (p := fun φ n => Z30.l0 (mkR (run E (φ 0))) (φ 0) n d c (c.length : Int) 0 [] = _) 1 ?_ (fun _ _ _ h => h)
  refine fold_loop 1 (L := fun φ n k a => Z30.l0 (mkR (run E (φ 0))) (φ 0) n d c (c.length : Int) k a) (len := c.length) (fun k => ofDim c d k) (fun _ _ _ _ _ => rfl) (fun k r hk ih => ?_) ?_
  · simp only [Z30.l0_succ _ mk_ok,hd1]
    rw [ofDim_succ,getD_lt hk] at ih
    have hlen := ofDim_length c d k
    refine ev_t (decide_eq_true (by omega)) (ev_bind (idx_lt hk) (ev_call (sizeI_ret _) ?_))
    rw [w64_succ (by omega)]
    refine ev_b (fun he => ev_chk (decide_eq_true (by simp only [List.length_cons,List.length_nil]; omega)) ?_) fun he => ?_
    · rw [if_pos (by simpa using he)] at ih; exact ih
    · rw [if_neg (by simpa using he),List.append_nil] at ih; exact ih
  · simp only [Z30.l0_succ _ mk_ok]
    exact ev_f (decide_eq_false (by omega)) ev_rfl

theorem l05Of_ret (c : List Sim) (d : Int) (hc : Sm yK c) (hd : -1 ≤ d ∧ d ≤ 1048576) : Ret E n_Z97 [dC (c,()),dI d] ⟨o_Z97,(ofDim c d c.length,())⟩ := by
  have hc1 : c.length ≤ 1048576 := hc.1
  have hd1 : w64 (d + 1) = d + 1 := w64_small (by omega) (by omega)
  refine ret_of ?_
  simp only [run_Z97,Z97.ev]
  refine Ev.start (p := fun φ n => Z97.l0 (mkR (run E (φ 0))) (φ 0) n (c,()) d 0 [] = _) 1 ?_ (fun _ _ _ h => h)
  refine fold_loop 1 (L := fun φ n k a => Z97.l0 (mkR (run E (φ 0))) (φ 0) n (c,()) d k a) (len := c.length) (fun k => ofDim c d k) (fun _ _ _ _ _ => rfl) (fun k r hk ih => ?_) ?_
  · simp only [Z97.l0_succ _ mk_ok,hd1]
    rw [ofDim_succ,getD_lt hk] at ih
    have hlen := ofDim_length c d k
    refine ev_t (decide_eq_true (by omega)) (ev_bind (idx_lt hk) ?_)
    rw [w64_succ (by omega)]
    refine ev_b (fun he => ev_chk (decide_eq_true (by simp only [List.length_cons,List.length_nil]; omega)) ?_) fun he => ?_
    · rw [if_pos (by simpa using he)] at ih; exact ih
    · rw [if_neg (by simpa using he),List.append_nil] at ih; exact ih
  · simp only [Z97.l0_succ _ mk_ok]
    exact ev_f (decide_eq_false (by omega)) ev_rfl

/-- the sum of the stalks of a dimension -/
def sumD (c : List Sim) (st : Sim) (d : Int) (k : Nat) : Int := (((ofDim c d c.length).take k).map fun i => st.getD i.toNat 0).sum

theorem sumD_succ (c : List Sim) (st : Sim) (d : Int) (k : Nat) (h : k < (ofDim c d c.length).length) : sumD c st d (k + 1) = sumD c st d k + st.getD ((ofDim c d c.length)[k]).toNat 0 := by
  unfold sumD
  rw [List.take_succ_eq_append_getElem h,List.map_append,List.sum_append]
  simp

theorem sumD_le {c : List Sim} {st : Sim} (hst : ∀ x ∈ st,0 ≤ x ∧ x ≤ 3) (d : Int) (k : Nat) : 0 ≤ sumD c st d k ∧ sumD c st d k ≤ 3 * k := by
  induction k with
  | zero => simp [sumD]
  | succ k ih =>
    by_cases h : k < (ofDim c d c.length).length
    · rw [sumD_succ _ _ _ _ h]
      have : 0 ≤ st.getD ((ofDim c d c.length)[k]).toNat 0 ∧ st.getD ((ofDim c d c.length)[k]).toNat 0 ≤ 3 := by
        by_cases hl : ((ofDim c d c.length)[k]).toNat < st.length
        · rw [getD_lt hl]; exact hst _ (List.getElem_mem hl)
        · rw [List.getD_eq_getElem?_getD,List.getElem?_eq_none (by omega)]; simp
      omega
    · have : sumD c st d (k + 1) = sumD c st d k := by
        unfold sumD
        rw [List.take_of_length_le (by omega),List.take_of_length_le (by omega)]
      omega

theorem stalkSum_ret (c : List Sim) (st : Sim) (d : Int) (p : Int) (ms : List Mat) (hc : Sm yK c) (hl : st.length = c.length) (hst : ∀ x ∈ st,0 ≤ x ∧ x ≤ 3) (hd : -1 ≤ d ∧ d ≤ 1048576) :
    Ret E n_Z33 [dLL c,dI p,dL st,dMs ms,dI d] ⟨o_Z33,(sumD c st d (ofDim c d c.length).length,())⟩ := by
  have hc1 : c.length ≤ 1048576 := hc.1
  have hol := ofDim_length c d c.length
  refine ret_of ?_
  simp only [run_Z33,Z33.ev]
  refine ev_call (simplicesOf_ret c d hc hd) ?_
  refine Ev.start (p := fun φ n => Z33.l0 (mkR (run E (φ 0))) (φ 0) n 0 (ofDim c d c.length) ((ofDim c d c.length).length : Int) 0 c p st ms = _) 1 ?_ (fun _ _ _ h => h)
  refine fold_loop 1 (L := fun φ n k a => Z33.l0 (mkR (run E (φ 0))) (φ 0) n a (ofDim c d c.length) ((ofDim c d c.length).length : Int) k c p st ms) (len := (ofDim c d c.length).length) (fun k => sumD c st d k) (fun _ _ _ _ _ => rfl) (fun k r hk ih => ?_) ?_
  · simp only [Z33.l0_succ _ mk_ok]
    obtain ⟨i,hi,hik⟩ := ofDim_mem (List.getElem_mem hk)
    rw [sumD_succ _ _ _ _ hk,hi,Int.toNat_natCast,getD_lt (by omega)] at ih
    have hb := sumD_le hst d k (c := c)
    have hb2 := hst _ (List.getElem_mem (show i < st.length by omega))
    refine ev_t (decide_eq_true (by omega)) (ev_bind (idx_lt hk) ?_)
    simp only [hi]
    refine ev_bind (idx_lt (by omega)) ?_
    rw [w64_succ (by omega),w64_small (by omega) (by omega)]
    exact ih
  · simp only [Z33.l0_succ _ mk_ok]
    exact ev_f (decide_eq_false (by omega)) ev_rfl

theorem l09Sum_ret (c : List Sim) (st : Sim) (d : Int) (hc : Sm yK c) (hl : st.length = c.length) (hst : ∀ x ∈ st,0 ≤ x ∧ x ≤ 3) (hd : -1 ≤ d ∧ d ≤ 1048576) :
    Ret E n_Z106 [dC (c,()),dL st,dI d] ⟨o_Z106,(sumD c st d (ofDim c d c.length).length,())⟩ := by
  have hc1 : c.length ≤ 1048576 := hc.1
  have hol := ofDim_length c d c.length
  refine ret_of ?_
  simp only [run_Z106,Z106.ev]
  refine ev_call (l05Of_ret c d hc hd) ?_
  refine Ev.start (p := fun φ n => Z106.l0 (mkR (run E (φ 0))) (φ 0) n st (ofDim c d c.length) 0 0 = _) 1 ?_ (fun _ _ _ h => h)
  refine fold_loop 1 (L := fun φ n k a => Z106.l0 (mkR (run E (φ 0))) (φ 0) n st (ofDim c d c.length) a k) (len := (ofDim c d c.length).length) (fun k => sumD c st d k) (fun _ _ _ _ _ => rfl) (fun k r hk ih => ?_) ?_
  · simp only [Z106.l0_succ _ mk_ok]
    obtain ⟨i,hi,hik⟩ := ofDim_mem (List.getElem_mem hk)
    rw [sumD_succ _ _ _ _ hk,hi,Int.toNat_natCast,getD_lt (by omega)] at ih
    have hb := sumD_le hst d k (c := c)
    have hb2 := hst _ (List.getElem_mem (show i < st.length by omega))
    refine ev_t (decide_eq_true (by omega)) (ev_bind (idx_lt hk) ?_)
    simp only [hi]
    refine ev_bind (idx_lt (by omega)) ?_
    rw [w64_succ (by omega),w64_small (by omega) (by omega)]
    exact ih
  · simp only [Z106.l0_succ _ mk_ok]
    exact ev_f (decide_eq_false (by omega)) ev_rfl

end VeT

open Go Go.Proofs Ve
set_option linter.unusedVariables false
set_option linter.unusedSimpArgs false
namespace VeT

/-- the sum of a dimension's stalks -/
def SD (c : List Sim) (st : Sim) (d : Int) : Int := sumD c st d (ofDim c d c.length).length

/-- stalks -/
def SK (c : List Sim) (st : Sim) : Prop := st.length = c.length ∧ (∀ x ∈ st,0 ≤ x ∧ x ≤ 3) ∧ ∀ d : Nat,d < 4 → SD c st (d : Int) ≤ 32

theorem areStalks_1_ret (n : Int) : Ret E n_Z14 [dI n] ⟨o_Z14,(!pb (0 ≤ n ∧ n ≤ 3),())⟩ := by
  refine ret_of ?_
  simp only [run_Z14,Z14.ev]
  exact ev_call (within_ret _ _ _) ev_rfl

theorem areStalks_ret (c : List Sim) (st : Sim) (hc : Sm yK c) (hs : st.length ≤ 1048576) : Ret E n_Z13 [dLL c,dL st] ⟨o_Z13,(pb (SK c st),())⟩ := by
  refine ret_of ?_
  simp only [run_Z13,Z13.ev]
  refine ev_b (fun h => ?_) fun h => ?_
  · simp only [Z13.j0_eq _ mk_ok,cond_true]
    have h : ¬ (st.length : Int) = c.length := by simpa using h
    rw [pb_false fun hk => h (by rw [hk.1])]; (first | exact ev_rfl | exact Ev.of fun _ => trivial)
  have hl : st.length = c.length := by have : (st.length : Int) = c.length := by simpa using h
                                       omega
  refine ev_call (ContainsFunc_Sint64_int64_impl_areStalks_1_ret st _ hs fun x _ => areStalks_1_ret x) ?_
  simp only [Z13.j0_eq _ mk_ok]
  have e := none_bad (s := st) (P := fun x => 0 ≤ x ∧ x ≤ 3)
  refine ev_b (fun h => ?_) fun h => ?_
  · simp only [h] at e
    rw [pb_false fun hk => pb_not.1 e.symm hk.2.1]; (first | exact ev_rfl | exact Ev.of fun _ => trivial)
  · simp only [h] at e
    have hst : ∀ x ∈ st,0 ≤ x ∧ x ≤ 3 := pb_iff.1 e.symm
    refine Ev.start (p := fun φ n => Z13.l1 (mkR (run E (φ 0))) (φ 0) n st 0 c = _) 1 ?_ (fun _ _ _ h => h)
    refine (all_pb 1 (L := fun φ n k => Z13.l1 (mkR (run E (φ 0))) (φ 0) n st k c) (len := 4) 0 (by omega) (fun d => SD c st (d : Int) ≤ 32) (fun b => some ⟨o_Z13,(b,())⟩) (fun _ _ _ _ => rfl) (fun k h1 h2 hP _ => ?_) (fun k r h1 h2 hP _ ih => ?_) (fun _ => ?_)).to ?_
    · simp only [Z13.l1_succ _ mk_ok]
      exact ev_t (decide_eq_true (by omega)) (ev_call (stalkSum_ret c st _ _ _ hc hl hst (by omega)) (ev_t (decide_eq_true (Int.not_le.1 hP)) ev_rfl))
    · simp only [Z13.l1_succ _ mk_ok]
      refine ev_t (decide_eq_true (by omega)) (ev_call (stalkSum_ret c st _ _ _ hc hl hst (by omega)) (ev_f (decide_eq_false (Int.not_lt.2 hP)) ?_))
      rw [w64_succ (by omega)]; exact ih
    · simp only [Z13.l1_succ _ mk_ok]
      exact ev_f (decide_eq_false (by omega)) ev_rfl
    · exact congrArg (fun b : Bool => some (⟨o_Z13,(b,())⟩ : Dv)) (pb_congr ⟨fun h => ⟨hl,hst,fun d hd => h d (by omega) hd⟩,fun h d _ hd => h.2.2 d hd⟩)

theorem l09Stalks_ret (c : List Sim) (st : Sim) (hc : Sm yK c) (hs : st.length ≤ 1048576) : Ret E n_Z105 [dC (c,()),dL st] ⟨o_Z105,(pb (SK c st),())⟩ := by
  refine ret_of ?_
  simp only [run_Z105,Z105.ev]
  refine ev_call (l03Column_ret st _ _ hs (by omega)) (ev_b (fun h => ?_) fun h => ?_)
  · have h := pb_not.1 (show pb (Elems st 4 ∧ (st.length : Int) = c.length) = false by simpa using h)
    rw [pb_false fun hk => h ⟨hk.2.1,by rw [hk.1]⟩]; (first | exact ev_rfl | exact Ev.of fun _ => trivial)
  · have h := pb_iff.1 (show pb (Elems st 4 ∧ (st.length : Int) = c.length) = true by simpa using h)
    have hl : st.length = c.length := by have := h.2; omega
    have hst : ∀ x ∈ st,0 ≤ x ∧ x ≤ 3 := h.1
    refine Ev.start (p := fun φ n => Z105.l0 (mkR (run E (φ 0))) (φ 0) n (c,()) st 0 = _) 1 ?_ (fun _ _ _ h => h)
    refine (all_pb 1 (L := fun φ n k => Z105.l0 (mkR (run E (φ 0))) (φ 0) n (c,()) st k) (len := 4) 0 (by omega) (fun d => SD c st (d : Int) ≤ 32) (fun b => some ⟨o_Z105,(b,())⟩) (fun _ _ _ _ => rfl) (fun k h1 h2 hP _ => ?_) (fun k r h1 h2 hP _ ih => ?_) (fun _ => ?_)).to ?_
    · simp only [Z105.l0_succ _ mk_ok]
      exact ev_t (decide_eq_true (by omega)) (ev_call (l09Sum_ret c st _ hc hl hst (by omega)) (ev_t (decide_eq_true (Int.not_le.1 hP)) ev_rfl))
    · simp only [Z105.l0_succ _ mk_ok]
      refine ev_t (decide_eq_true (by omega)) (ev_call (l09Sum_ret c st _ hc hl hst (by omega)) (ev_f (decide_eq_false (Int.not_lt.2 hP)) ?_))
      rw [w64_succ (by omega)]; exact ih
    · simp only [Z105.l0_succ _ mk_ok]
      exact ev_f (decide_eq_false (by omega)) ev_rfl
    · exact congrArg (fun b : Bool => some (⟨o_Z105,(b,())⟩ : Dv)) (pb_congr ⟨fun h => ⟨hl,hst,fun d hd => h d (by omega) hd⟩,fun h d _ hd => h.2.2 d hd⟩)

/-! faces' indices -/
noncomputable def fIdx (c : List Sim) (k : Nat) : List Int := (faces (c.getD k [])).map (findI c)

theorem findI_lt {c : List Sim} {s : Sim} : findI c s < c.length ∧ -1 ≤ findI c s := by
  unfold findI idxf
  cases h : c.findIdx? (fun x => pb (x = s)) with
  | none => simp only [o2i]; omega
  | some k =>
    rw [List.findIdx?_eq_some_iff_getElem] at h
    obtain ⟨h,_⟩ := h
    simp only [o2i]; omega

theorem fIdx_length {c : List Sim} {k : Nat} : (fIdx c k).length = if 1 < (c.getD k []).length then (c.getD k []).length else 0 := by
  unfold fIdx faces
  rw [List.length_map]
  split <;> simp

theorem fIdx_mem {c : List Sim} (h : VC c) {k : Nat} (hk : k < c.length) {x : Int} (hx : x ∈ fIdx c k) : 0 ≤ x ∧ x < c.length := by
  unfold fIdx at hx
  rw [List.mem_map] at hx
  obtain ⟨f,hf,rfl⟩ := hx
  exact ⟨findI_nonneg.2 (h.2.2.2 k hk f hf),findI_lt.1⟩

theorem faceIndices_ret (c : List Sim) (k : Nat) (hk : k < c.length) (hc : Sm yK c) (hs : Srt c) : Ret E n_Z20 [dLL c,dI (k : Int)] ⟨o_Z20,(fIdx c k,())⟩ := by
  have hks : (c[k]).length ≤ 1048576 := (sm_get hc hk).1
  have hfl := faces_length (s := c[k])
  refine ret_of ?_
  simp only [run_Z20,Z20.ev]
  refine ev_bind (idx_lt hk) (ev_call (facesOf_ret _ hks) ?_)
  refine Ev.start (p := fun φ n => Z20.l0 (mkR (run E (φ 0))) (φ 0) n (faces c[k]) ((faces c[k]).length : Int) 0 c [] = _) 1 ?_ (fun _ _ _ h => h)
  refine fold_loop 1 (L := fun φ n j a => Z20.l0 (mkR (run E (φ 0))) (φ 0) n (faces c[k]) ((faces c[k]).length : Int) j c a) (len := (faces c[k]).length) (fun j => ((faces c[k]).take j).map (findI c)) (fun _ _ _ _ _ => rfl) (fun j r hj ih => ?_) ?_
  · simp only [Z20.l0_succ _ mk_ok]
    rw [List.take_succ_eq_append_getElem hj,List.map_append] at ih
    refine ev_t (decide_eq_true (by omega)) (ev_bind (idx_lt hj) (ev_call (indexOf_ret c _ hc hs) (ev_chk (by simp; omega) ?_)))
    rw [w64_succ (by omega)]; exact ih
  · simp only [Z20.l0_succ _ mk_ok]
    refine ev_f (decide_eq_false (by omega)) (ev_some ?_)
    rw [List.take_of_length_le (Nat.le_refl _),fIdx,getD_lt hk]

theorem l05Faces_ret (c : List Sim) (k : Nat) (hk : k < c.length) (hc : Sm yK c) : Ret E n_Z95 [dC (c,()),dI (k : Int)] ⟨o_Z95,(fIdx c k,())⟩ := by
  have hks : (c[k]).length ≤ 1048576 := (sm_get hc hk).1
  refine ret_of ?_
  simp only [run_Z95,Z95.ev]
  refine ev_bind (idx_lt hk) ?_
  refine Ev.start (p := fun φ n => Z95.l0 (mkR (run E (φ 0))) (φ 0) n (c,()) c[k] 0 [] = _) 1 ?_ (fun _ _ _ h => h)
  by_cases hlen : 1 < (c[k]).length
  · refine fold_loop 1 (L := fun φ n j a => Z95.l0 (mkR (run E (φ 0))) (φ 0) n (c,()) c[k] j a) (len := (c[k]).length) (fun j => (List.range j).map fun i => findI c ((c[k]).eraseIdx i)) (fun _ _ _ _ _ => rfl) (fun j r hj ih => ?_) ?_
    · simp only [Z95.l0_succ _ mk_ok]
      rw [List.range_succ,List.map_append] at ih
      refine ev_t (decide_eq_true (by omega)) ?_
      simp only [show decide (((c[k]).length : Int) > 1) = true from decide_eq_true (by omega),Z95.j1_eq _ mk_ok,cond_true]
      refine ev_call (l05Drop_ret _ j hj hks) (ev_call (l05Find_ret (c,()) _ hc) (ev_chk (by simp; omega) ?_))
      rw [w64_succ (by omega)]; exact ih
    · simp only [Z95.l0_succ _ mk_ok]
      refine ev_f (decide_eq_false (by omega)) ?_
      simp only [Z95.j1_eq _ mk_ok,cond_false]
      refine ev_some ?_
      rw [fIdx,getD_lt hk,faces,if_pos hlen,List.map_map]; rfl
  · refine Ev.round 1 (L := fun φ n => Z95.l0 (mkR (run E (φ 0))) (φ 0) n (c,()) c[k] 0 []) ?_ (fun _ _ _ => rfl)
    have hj : Ev fun φ => Z95.j1 (mkR (run E (φ 0))) (φ 0) (φ 1) (c,()) c[k] 0 false [] = some ⟨o_Z95,(fIdx c k,())⟩ := by
      simp only [Z95.j1_eq _ mk_ok,cond_false]
      refine ev_some ?_
      rw [fIdx,getD_lt hk,faces,if_neg hlen]; rfl
    simp only [Z95.l0_succ _ mk_ok]
    refine ev_d (fun _ => ?_) fun _ => hj
    simp only [show decide (((c[k]).length : Int) > 1) = false from decide_eq_false (by omega)]
    exact hj

/-! arrows -/
abbrev Arw := Int × Int × Int × Unit
noncomputable def rowA (c : List Sim) (k i : Nat) : List Arw := (List.range i).map fun (j : Nat) => ((k : Int),(j : Int),(fIdx c k).getD j 0,())
noncomputable def arrs (c : List Sim) : Nat → List Arw
  | 0 => []
  | k + 1 => arrs c k ++ rowA c k (fIdx c k).length
noncomputable def plc (c : List Sim) (k : Nat) : Nat := (arrs c k).length

theorem rowA_length {c : List Sim} {k i : Nat} : (rowA c k i).length = i := by simp [rowA]

theorem plc_succ {c : List Sim} {k : Nat} : plc c (k + 1) = plc c k + (fIdx c k).length := by
  unfold plc; rw [arrs,List.length_append,rowA_length]

theorem VC.len4 {c : List Sim} (h : VC c) {k : Nat} (hk : k < c.length) : (c.getD k []).length ≤ 4 := (h.2.1 k hk).2.1

theorem VC.fIdx4 {c : List Sim} (h : VC c) {k : Nat} (hk : k < c.length) : (fIdx c k).length ≤ 4 := by
  have := h.len4 hk
  rw [fIdx_length]; split <;> omega

theorem VC.plc {c : List Sim} (h : VC c) : ∀ {k : Nat},k ≤ c.length → plc c k ≤ 4 * k
  | 0,_ => by simp [VeT.plc,arrs]
  | k + 1,hk => by
    have h1 := h.plc (k := k) (by omega)
    have h2 := h.fIdx4 (k := k) (by omega)
    rw [plc_succ]; omega

theorem arrs_get {c : List Sim} : ∀ {n k i : Nat},k < n → i < (fIdx c k).length → (arrs c n)[plc c k + i]? = some ((k : Int),(i : Int),(fIdx c k).getD i 0,())
  | 0,_,_,h,_ => by omega
  | n + 1,k,i,h,hi => by
    rw [arrs]
    by_cases hk : k < n
    · have := arrs_get hk hi
      have hl := (List.getElem?_eq_some_iff.1 this).1
      rw [List.getElem?_append_left hl]; exact this
    · obtain rfl : k = n := by omega
      rw [List.getElem?_append_right (by unfold plc; omega)]
      rw [show plc c k + i - (arrs c k).length = i by unfold plc; omega]
      simp [rowA,hi]

theorem arrs_ex {c : List Sim} : ∀ {n t : Nat},t < (arrs c n).length → ∃ k i,k < n ∧ i < (fIdx c k).length ∧ t = plc c k + i
  | 0,_,h => by simp [arrs] at h
  | n + 1,t,h => by
    by_cases ht : t < (arrs c n).length
    · obtain ⟨k,i,h1,h2,h3⟩ := arrs_ex ht
      exact ⟨k,i,by omega,h2,h3⟩
    · rw [arrs,List.length_append,rowA_length] at h
      exact ⟨n,t - (arrs c n).length,by omega,by omega,by unfold plc; omega⟩

theorem arrows_ret (c : List Sim) (hc : Sm yK c) (hv : VC c) : Ret E n_Z15 [dLL c] ⟨o_Z15,(arrs c c.length,())⟩ := by
  have hs := hv.srt
  have h48 := hv.1
  refine ret_of ?_
  simp only [run_Z15,Z15.ev]
  refine ev_call (sizeL_ret _) ?_
  refine Ev.start (p := fun φ n => Z15.l0 (mkR (run E (φ 0))) (φ 0) n (c.length : Int) 0 c [] = _) 1 ?_ (fun _ _ _ h => h)
  refine fold_loop 1 (L := fun φ n k a => Z15.l0 (mkR (run E (φ 0))) (φ 0) n (c.length : Int) k c a) (len := c.length) (fun k => arrs c k) (fun _ _ _ _ _ => rfl) (fun k r hk ih => ?_) ?_
  · simp only [Z15.l0_succ _ mk_ok]
    have hpl := hv.plc (k := k) (by omega)
    have hf4 := hv.fIdx4 hk
    refine ev_t (decide_eq_true (by omega)) (ev_call (faceIndices_ret c k hk hc hs) ?_)
    refine Ev.start (p := fun φ n => Z15.l1 (mkR (run E (φ 0))) (φ 0) (φ 1) n (k : Int) (c.length : Int) (k : Int) (fIdx c k) ((fIdx c k).length : Int) 0 c (arrs c k) = _) 2 ?_ (fun _ _ _ h => h)
    have := fold_loop 2 (L := fun φ n j a => Z15.l1 (mkR (run E (φ 0))) (φ 0) (φ 1) n (k : Int) (c.length : Int) (k : Int) (fIdx c k) ((fIdx c k).length : Int) j c a) (len := (fIdx c k).length) (fun j => arrs c k ++ rowA c k j) (r := r) (fun _ _ _ _ _ => rfl) (fun j r hj ih => ?_) ?_
    · simpa [rowA] using this
    · simp only [Z15.l1_succ _ mk_ok]
      refine ev_t (decide_eq_true (by omega)) (ev_bind (idx_lt hj) (ev_chk (decide_eq_true ?_) ?_))
      · rw [List.length_append,rowA_length]; show (_ + _ + 1) * 24 ≤ _
        have : (arrs c k).length = plc c k := rfl
        omega
      · rw [w64_succ (by omega)]
        have e : rowA c k (j + 1) = rowA c k j ++ [((k : Int),(j : Int),(fIdx c k)[j],())] := by
          unfold rowA; rw [List.range_succ,List.map_append]; simp [List.getD_eq_getElem?_getD,hj]
        rw [e,← List.append_assoc] at ih
        exact ih
    · simp only [Z15.l1_succ _ mk_ok]
      refine ev_f (decide_eq_false (by omega)) ?_
      rw [w64_succ (by omega)]; exact ih
  · simp only [Z15.l0_succ _ mk_ok]
    exact ev_f (decide_eq_false (by omega)) ev_rfl

theorem l09Place_ret (c : List Sim) (k i : Nat) (hk : k ≤ c.length) (hi : i ≤ 1048576) (hv : VC c) : Ret E n_Z104 [dC (c,()),dI (k : Int),dI (i : Int)] ⟨o_Z104,(((plc c k + i : Nat) : Int),())⟩ := by
  have h48 := hv.1
  refine ret_of ?_
  simp only [run_Z104,Z104.ev]
  refine Ev.start (p := fun φ n => Z104.l0 (mkR (run E (φ 0))) (φ 0) n (c,()) (k : Int) (i : Int) 0 0 = _) 1 ?_ (fun _ _ _ h => h)
  have := fold_loop 1 (L := fun φ n j a => Z104.l0 (mkR (run E (φ 0))) (φ 0) n (c,()) (k : Int) (i : Int) a j) (len := k) (fun j => ((plc c j : Nat) : Int)) (r := some ⟨o_Z104,(((plc c k + i : Nat) : Int),())⟩) (fun _ _ _ _ _ => rfl) (fun j r hj ih => ?_) ?_
  · exact this
  · simp only [Z104.l0_succ _ mk_ok]
    have hjc : j < c.length := by omega
    have hpl := hv.plc (k := j) (by omega)
    have h4 := hv.len4 hjc
    have e := plc_succ (c := c) (k := j)
    rw [fIdx_length] at e
    rw [getD_lt hjc] at e h4
    refine ev_t (decide_eq_true (by omega)) (ev_bind (idx_lt hjc) (ev_d (fun hl => ev_bind (idx_lt hjc) ?_) fun hl => ?_))
    · rw [if_pos (by omega)] at e
      rw [w64_succ (by omega),w64_small (by omega) (by omega)]
      rw [e] at ih
      simpa using ih
    · rw [if_neg (by omega)] at e
      rw [w64_succ (by omega)]
      rw [e] at ih; exact ih
  · simp only [Z104.l0_succ _ mk_ok]
    have hpl := hv.plc hk
    refine ev_f (decide_eq_false (by omega)) (ev_some ?_)
    rw [w64_small (by omega) (by omega)]
    simp

end VeT

open Go Go.Proofs Ve
set_option linter.unusedVariables false
set_option linter.unusedSimpArgs false
namespace VeT

def mz : Mat := (0,0,0,[],())
/-- the map at a face -/
def QB (p : Int) (st : Sim) (ms : List Mat) (t k : Nat) (f : Int) : Prop := Bt (ms.getD t mz) p (st.getD f.toNat 0) (st.getD k 0)

/-- valid sheaves -/
def VS (c : List Sim) (p : Int) (st : Sim) (ms : List Mat) : Prop := VC c ∧ Pr p ∧ SK c st ∧ plc c c.length = ms.length ∧ ∀ k,k < c.length → ∀ i,i < (fIdx c k).length → QB p st ms (plc c k + i) k ((fIdx c k).getD i 0)

theorem sm_mat {ms : List Mat} (h : Sm (.sl (.st cM)) ms) {t : Nat} (ht : t < ms.length) : Sm (.st cM) ms[t] := h.2 _ (List.getElem_mem ht)

end VeT

open Go Go.Proofs Ve
set_option linter.unusedVariables false
set_option linter.unusedSimpArgs false
namespace VeT

end VeT

open Go Go.Proofs Ve
set_option linter.unusedVariables false
set_option linter.unusedSimpArgs false
namespace VeT

theorem Clone_ret (s : Sim) (hs : s.length ≤ 1048576) : Ret E n_Z62 [dL s] ⟨o_Z62,(s,())⟩ := by
  refine ret_of ?_
  simp only [run_Z62,Z62.ev,Z62.j0_eq _ mk_ok,cond_true,cond_false]
  have h : Ev fun φ => (Option.bind (chk (decide ((List.length ([] : List Int) + List.length s) * 8 ≤ 70368744177664))) fun _ => some (⟨o_Z62,((([] : List Int) ++ s),())⟩ : Dv)) = some ⟨o_Z62,(s,())⟩ :=
    ev_chk (by simp; omega) (ev_some rfl)
  cases s with
  | nil => exact ev_t rfl (ev_both ev_rfl h)
  | cons a s => exact ev_f rfl h

end VeT

open Go Go.Proofs Ve
set_option linter.unusedVariables false
set_option linter.unusedSimpArgs false
namespace VeT

theorem VM.nat {m : Mat} (h : VM m) : ∃ R K : Nat,m = (m.1,(R : Int),(K : Int),m.2.2.2.1,()) ∧ R ≤ 32 ∧ K ≤ 32 ∧ m.2.2.2.1.length = R * K := by
  obtain ⟨p,r,k,c,⟨⟩⟩ := m
  obtain ⟨_,h2,h3,h4,_⟩ := h
  simp only at h2 h3 h4
  obtain ⟨R,rfl⟩ := Int.eq_ofNat_of_zero_le h2.1
  obtain ⟨K,rfl⟩ := Int.eq_ofNat_of_zero_le h3.1
  refine ⟨R,K,rfl,by omega,by omega,?_⟩
  rw [cast_mul] at h4; simp only; omega

theorem l03Zero_ret (p : Int) (R C : Nat) (hR : R ≤ 32) (hC : C ≤ 32) : Ret E n_Z92 [dI p,dI (R : Int),dI (C : Int)] ⟨o_Z92,(p,(R : Int),(C : Int),List.replicate (R * C) 0,())⟩ := by
  have h1 := rc_le hR hC
  have e1 : w64 ((R : Int) * (C : Int)) = ((R * C : Nat) : Int) := by rw [cast_mul]; exact w64_small (by omega) (by omega)
  refine ret_of ?_
  simp only [run_Z92,Z92.ev,e1,Int.toNat_natCast]
  exact ev_chk (by simp only [Bool.and_eq_true,decide_eq_true_eq]; omega) ev_rfl

end VeT

open Go Go.Proofs Ve
set_option linter.unusedVariables false
set_option linter.unusedSimpArgs false
namespace VeT

theorem EqualP_ret (a b : Sim) (ha : a.length ≤ 1048576) : Ret E n_Z72 [dL a,dL b] ⟨o_Z72,(pb (a = b),())⟩ := by
  refine ret_of ?_
  simp only [run_Z72,Z72.ev]
  refine ev_b (fun h => ev_some ?_) fun h => ?_
  · have h : (a.length : Int) ≠ b.length := by simpa using h
    rw [pb_false fun e => h (by rw [e])]
  · have h : (a.length : Int) = b.length := by simpa using h
    refine Ev.start (p := fun φ n => Z72.l0 (mkR (run E (φ 0))) (φ 0) n a b (a.length : Int) 0 = _) 1 ?_ (fun _ _ _ h => h)
    refine (all_pb 1 (L := fun φ n k => Z72.l0 (mkR (run E (φ 0))) (φ 0) n a b (a.length : Int) k) (len := a.length) 0 (by omega) (fun j => a.getD j 0 = b.getD j 0) (fun b => some ⟨o_Z72,(b,())⟩) (fun _ _ _ _ => rfl) (fun k h1 h2 hP _ => ?_) (fun k r h1 h2 hP _ ih => ?_) (fun _ => ?_)).to ?_
    · simp only [Z72.l0_succ _ mk_ok]
      have hb : k < b.length := by omega
      rw [getD_lt h2,getD_lt hb] at hP
      exact ev_t (decide_eq_true (by omega)) (ev_bind (idx_lt h2) (ev_bind (idx_lt hb) (ev_t (by simpa using hP) ev_rfl)))
    · simp only [Z72.l0_succ _ mk_ok]
      have hb : k < b.length := by omega
      rw [getD_lt h2,getD_lt hb] at hP
      refine ev_t (decide_eq_true (by omega)) (ev_bind (idx_lt h2) (ev_bind (idx_lt hb) (ev_f (by simpa using hP) ?_)))
      rw [w64_succ (by omega)]; exact ih
    · simp only [Z72.l0_succ _ mk_ok]
      exact ev_f (decide_eq_false (by omega)) ev_rfl
    · refine congrArg (fun b : Bool => some (⟨o_Z72,(b,())⟩ : Dv)) (pb_congr ⟨fun hh => List.ext_getElem (by omega) fun j h1 h2 => ?_,fun hh j _ _ => by rw [hh]⟩)
      have := hh j (by omega) h1
      rwa [getD_lt h1,getD_lt h2] at this

/-! the maps of a sheaf -/
noncomputable def mp (c : List Sim) (ms : List Mat) (k i : Nat) : Mat := ms.getD (plc c k + i) mz

noncomputable def fc (c : List Sim) (k i : Nat) : Nat := ((fIdx c k).getD i 0).toNat

theorem findI_get {c : List Sim} {s : Sim} (h : s ∈ c) : c.getD (findI c s).toNat [] = s := by
  have h0 := findI_nonneg.2 h
  unfold findI idxf at h0 ⊢
  cases hf : c.findIdx? (fun x => pb (x = s)) with
  | none => rw [hf] at h0; simp [o2i] at h0
  | some k =>
    rw [List.findIdx?_eq_some_iff_getElem] at hf
    obtain ⟨hk,hp,_⟩ := hf
    simp only [o2i,Int.toNat_natCast]
    rw [getD_lt hk]; exact pb_iff.1 hp

theorem fc_get {c : List Sim} (h : VC c) {k i : Nat} (hk : k < c.length) (hi : i < (fIdx c k).length) : idx? (fIdx c k) (i : Int) = some ((fc c k i : Nat) : Int) ∧ fc c k i < c.length ∧ c.getD (fc c k i) [] = (c.getD k []).eraseIdx i := by
  have hm := fIdx_mem h hk (List.getElem_mem hi)
  have hl := fIdx_length (c := c) (k := k)
  have h1 : 1 < (c.getD k []).length := Classical.byContradiction fun hn => by rw [if_neg hn] at hl; omega
  rw [if_pos h1] at hl
  have hfc : (fIdx c k)[i] = findI c ((c.getD k []).eraseIdx i) := by
    have : (fIdx c k)[i]? = some (findI c ((c.getD k []).eraseIdx i)) := by
      unfold fIdx faces
      rw [if_pos h1,List.map_map,List.getElem?_map,List.getElem?_range (by omega)]; rfl
    rw [List.getElem?_eq_getElem hi] at this
    exact Option.some.inj this
  have hin : (c.getD k []).eraseIdx i ∈ c := h.2.2.2 k hk _ (faces_mem.2 ⟨h1,i,by omega,rfl⟩)
  unfold fc
  rw [getD_lt hi]
  refine ⟨?_,by omega,?_⟩
  · rw [idx_lt hi]; congr 1; omega
  · rw [hfc]; exact findI_get hin

theorem VS.map {c : List Sim} {p : Int} {st : Sim} {ms : List Mat} (h : VS c p st ms) {k i : Nat} (hk : k < c.length) (hi : i < (fIdx c k).length) : plc c k + i < ms.length ∧ Bt (mp c ms k i) p (st.getD (fc c k i) 0) (st.getD k 0) := by
  have hg := arrs_get hk hi
  have hlt := (List.getElem?_eq_some_iff.1 hg).1
  exact ⟨by rw [← h.2.2.2.1]; exact hlt,h.2.2.2.2 k hk i hi⟩

structure Sq (c : List Sim) (p : Int) (st : Sim) (ms : List Mat) (k i j : Nat) : Prop where
  kl : k < c.length
  n3 : 3 ≤ (c.getD k []).length
  il : i < (c.getD k []).length
  jl : j + 1 < (c.getD k []).length
  v : VS c p st ms

theorem Sq.hi {c p st ms k i j} (h : Sq c p st ms k i j) : i < (fIdx c k).length := by
  have := h.n3; have := h.il
  rw [fIdx_length,if_pos (by omega)]; exact this

theorem Sq.fk {c p st ms k i j} (h : Sq c p st ms k i j) : fc c k i < c.length := (fc_get h.v.1 h.kl h.hi).2.1

theorem Sq.hj {c p st ms k i j} (h : Sq c p st ms k i j) : j < (fIdx c (fc c k i)).length := by
  have h1 := h.n3; have h2 := h.il; have h3 := h.jl
  have e := (fc_get h.v.1 h.kl h.hi).2.2
  rw [fIdx_length,e,List.length_eraseIdx,if_pos h2,if_pos (by omega)]; omega

theorem Sq.b1 {c p st ms k i j} (h : Sq c p st ms k i j) : VM (mp c ms k i) := ((h.v.map h.kl h.hi).2).1
theorem Sq.b2 {c p st ms k i j} (h : Sq c p st ms k i j) : VM (mp c ms (fc c k i) j) := ((h.v.map h.fk h.hj).2).1
theorem Sq.sh {c p st ms k i j} (h : Sq c p st ms k i j) : (mp c ms k i).2.2.1 = (mp c ms (fc c k i) j).2.1 := by
  rw [((h.v.map h.kl h.hi).2).2.2.2,((h.v.map h.fk h.hj).2).2.2.1]

end VeT

open Go Go.Proofs Ve
set_option linter.unusedVariables false
set_option linter.unusedSimpArgs false
namespace VeT

theorem Index_ret (s : Sim) (v : Int) (hs : s.length ≤ 1048576) : Ret E n_Z80 [dL s,dI v] ⟨o_Z80,(idxf (fun x => pb (x = v)) s,())⟩ := by
  obtain ⟨o,h1,h2,h3⟩ := find_loop 1 (L := fun φ n k => Z80.l0 (mkR (run E (φ 0))) (φ 0) n s v (s.length : Int) k) (len := s.length) (fun k => ∃ h : k < s.length,pb (s[k] = v) = true) (fun o => some ⟨o_Z80,(o2i o,())⟩) (fun _ _ _ _ => rfl) (fun k hk hP => by
      obtain ⟨_,hP⟩ := hP
      have hP := pb_iff.1 hP
      simp only [Z80.l0_succ _ mk_ok]
      exact ev_t (decide_eq_true (by omega)) (ev_bind (idx_lt hk) (ev_t (by simp [hP]) ev_rfl))) (fun k q hk hP ih => by
      simp only [Z80.l0_succ _ mk_ok]
      refine ev_t (decide_eq_true (by omega)) (ev_bind (idx_lt hk) (ev_f (by simp only [beq_eq_false_iff_ne]; exact fun e => hP ⟨hk,pb_true e.symm⟩) ?_))
      rw [w64_succ (by omega)]; exact ih) (by
      simp only [Z80.l0_succ _ mk_ok]
      exact ev_f (decide_eq_false (by omega)) ev_rfl)
  rw [idxf_of (p := fun x => pb (x = v)) h1 h2] at h3
  refine ret_of ?_
  simp only [run_Z80,Z80.ev]
  exact Ev.start (p := fun φ n => Z80.l0 (mkR (run E (φ 0))) (φ 0) n s v (s.length : Int) 0 = _) 1 h3 (fun _ _ _ h => h)

theorem l00Has_ret (s : Sim) (v : Int) (hs : s.length ≤ 1048576) : Ret E n_Z84 [dL s,dI v] ⟨o_Z84,(pb (v ∈ s),())⟩ := by
  obtain ⟨o,h1,h2,h3⟩ := find_loop 1 (L := fun φ n k => Z84.l0 (mkR (run E (φ 0))) (φ 0) n s v k) (len := s.length) (fun k => ∃ h : k < s.length,s[k] = v) (fun o => some ⟨o_Z84,(o.isSome,())⟩) (fun _ _ _ _ => rfl) (fun k hk hP => by
      obtain ⟨_,hP⟩ := hP
      simp only [Z84.l0_succ _ mk_ok]
      exact ev_t (decide_eq_true (by omega)) (ev_bind (idx_lt hk) (ev_t (by simp [hP]) ev_rfl))) (fun k q hk hP ih => by
      simp only [Z84.l0_succ _ mk_ok]
      refine ev_t (decide_eq_true (by omega)) (ev_bind (idx_lt hk) (ev_f (by simp only [beq_eq_false_iff_ne]; exact fun e => hP ⟨hk,e⟩) ?_))
      rw [w64_succ (by omega)]; exact ih) (by
      simp only [Z84.l0_succ _ mk_ok]
      exact ev_f (decide_eq_false (by omega)) ev_rfl)
  have : o.isSome = pb (v ∈ s) := eq_pb (by
    cases o with
    | none =>
      simp only [Option.isSome_none,Bool.false_eq_true,false_iff]
      intro hm
      obtain ⟨j,hj,e⟩ := List.mem_iff_getElem.1 hm
      exact h2 rfl j hj ⟨hj,e⟩
    | some k =>
      obtain ⟨_,⟨hk,e⟩,_⟩ := h1 k rfl
      simp only [Option.isSome_some,true_iff]
      exact e ▸ List.getElem_mem hk)
  rw [this] at h3
  refine ret_of ?_
  simp only [run_Z84,Z84.ev]
  exact Ev.start (p := fun φ n => Z84.l0 (mkR (run E (φ 0))) (φ 0) n s v 0 = _) 1 h3 (fun _ _ _ h => h)

end VeT

open Go Go.Proofs Ve
set_option linter.unusedVariables false
set_option linter.unusedSimpArgs false
namespace VeT

/-- the unit matrix' entries -/
def unitE (i j : Nat) : Int := if i = j then 1 else 0
def unitM (p : Int) (n : Nat) : Mat := (p,(n : Int),(n : Int),flatF unitE n n,())

theorem unit_1_ret (i j : Nat) : Ret E n_Z35 [dI (i : Int),dI (j : Int)] ⟨o_Z35,(unitE i j,())⟩ := by
  refine ret_of ?_
  simp only [run_Z35,Z35.ev]
  refine ev_b (fun h => ev_some ?_) fun h => ev_some ?_
  · have h : (i : Int) = j := by simpa using h
    rw [unitE,if_pos (by omega)]
  · have h : ¬ (i : Int) = j := by simpa using h
    rw [unitE,if_neg (by omega)]

theorem unit_ret (p : Int) (n : Nat) (hn : n ≤ 32) : Ret E n_Z34 [dI p,dI (n : Int)] ⟨o_Z34,unitM p n⟩ := by
  have h := rc_le hn hn
  refine ret_of ?_
  simp only [run_Z34,Z34.ev]
  exact ev_call (filled_impl_unit_1_ret p n n unitE (by omega) (by omega) (by omega) fun i j _ _ => unit_1_ret i j) ev_rfl

theorem l03Unit_ret (p : Int) (n : Nat) (hn : n ≤ 32) : Ret E n_Z91 [dI p,dI (n : Int)] ⟨o_Z91,unitM p n⟩ := by
  have h := rc_le hn hn
  refine ret_of ?_
  simp only [run_Z91,Z91.ev]
  refine ev_call (l03Zero_ret p n n hn hn) ?_
  refine Ev.start (p := fun φ m => Z91.l0 (mkR (run E (φ 0))) (φ 0) m (n : Int) 0 0 0 0 p (n : Int) (n : Int) (List.replicate (n * n) 0) = _) 1 ?_ (fun _ _ _ h => h)
  have := fold_loop 1 (L := fun φ m i o => Z91.l0 (mkR (run E (φ 0))) (φ 0) m (n : Int) i 0 0 0 p (n : Int) (n : Int) o) (len := n) (fun i => flatF unitE n i ++ List.replicate ((n - i) * n) 0) (r := some ⟨o_Z91,unitM p n⟩) (fun _ _ _ _ _ => rfl) (fun i r hi ih => ?_) ?_
  · simpa [flatF] using this
  · simp only [Z91.l0_succ _ mk_ok]
    have hii := lt_rc hi hi
    have hle : (i + 1) * n ≤ n * n := Nat.mul_le_mul_right _ hi
    rw [Nat.add_mul] at hle
    have hRi : (n - i) * n = n + (n - (i + 1)) * n := by
      rw [show n - i = (n - (i + 1)) + 1 by omega,Nat.add_mul]; omega
    have hol : (flatF unitE n i ++ List.replicate ((n - i) * n) (0 : Int)).length = i * n + (n - i) * n := by simp [flatF_length]
    have e1 : w64 (w64 ((i : Int) * (n : Int)) + (i : Int)) = ((i * n + i : Nat) : Int) := by
      rw [cast_mul,w64_small (n := ((i * n : Nat) : Int)) (by omega) (by omega),w64_small (by omega) (by omega)]; omega
    simp only [e1,Int.toNat_natCast]
    refine ev_t (decide_eq_true (by omega)) (ev_chk (by simp only [Bool.and_eq_true,decide_eq_true_eq,hol]; omega) ?_)
    rw [w64_succ (by omega)]
    have e2 : (flatF unitE n i ++ List.replicate ((n - i) * n) (0 : Int)).set (i * n + i) 1 = flatF unitE n (i + 1) ++ List.replicate ((n - (i + 1)) * n) 0 := by
      rw [List.set_append_right _ _ (by rw [flatF_length]; omega),flatF_length,Nat.add_sub_cancel_left,flatF,List.append_assoc]
      congr 1
      apply List.ext_getElem?
      intro j
      rw [List.getElem?_set,List.length_replicate]
      by_cases hj : j < n
      · rw [List.getElem?_append_left (by simpa using hj)]
        by_cases hij : i = j
        · subst hij
          rw [if_pos rfl,if_pos (by omega)]
          simp [hj,unitE]
        · rw [if_neg hij,List.getElem?_replicate,if_pos (by omega)]
          simp [hj,unitE,hij]
      · rw [if_neg (by omega),List.getElem?_append_right (by simpa using hj)]
        simp only [List.length_map,List.length_range,List.getElem?_replicate]
        by_cases h2 : j < (n - i) * n
        · rw [if_pos h2,if_pos (by omega)]
        · rw [if_neg h2,if_neg (by omega)]
    rw [e2]
    exact ih
  · simp only [Z91.l0_succ _ mk_ok]
    refine ev_f (decide_eq_false (by omega)) (ev_some ?_)
    simp [unitM]

end VeT

open Go Go.Proofs Ve
set_option linter.unusedVariables false
set_option linter.unusedSimpArgs false
namespace VeT

end VeT

open Go Go.Proofs Ve
set_option linter.unusedVariables false
set_option linter.unusedSimpArgs false
namespace VeT

end VeT

open Go Go.Proofs Ve
set_option linter.unusedVariables false
set_option linter.unusedSimpArgs false
namespace VeT

theorem ofDim_pre {c : List Sim} {d : Int} {s n : Nat} (hs : s < n) (hd : ((c.getD s []).length : Int) = d + 1) : ∃ tl,ofDim c d n = ofDim c d s ++ (s : Int) :: tl := by
  induction n with
  | zero => omega
  | succ n ih =>
    rw [ofDim_succ]
    by_cases h : s = n
    · subst h; exact ⟨[],by rw [if_pos hd]⟩
    · obtain ⟨tl,e⟩ := ih (by omega)
      exact ⟨tl ++ _,by rw [e,List.append_assoc]; rfl⟩

theorem ofDim_iff {c : List Sim} {d : Int} {k : Nat} {x : Int} : x ∈ ofDim c d k ↔ ∃ i : Nat,x = i ∧ i < k ∧ ((c.getD i []).length : Int) = d + 1 := by
  unfold ofDim
  rw [List.mem_map]
  constructor
  · rintro ⟨i,hi,rfl⟩
    have := List.mem_filter.1 hi
    exact ⟨i,rfl,by simpa using this.1,by simpa using this.2⟩
  · rintro ⟨i,rfl,h1,h2⟩
    exact ⟨i,List.mem_filter.2 ⟨by simpa using h1,by simpa using h2⟩,rfl⟩

end VeT

open Go Go.Proofs Ve
set_option linter.unusedVariables false
set_option linter.unusedSimpArgs false
namespace VeT

end VeT

open Go Go.Proofs Ve
set_option linter.unusedVariables false
set_option linter.unusedSimpArgs false
namespace VeT

/-! slices.SortFunc,slices.CompactFunc -/
theorem lexc_lexN : ∀ {a b : Sim},lexc a b = lexN a b
  | [],[] => rfl
  | [],_ :: _ => rfl
  | _ :: _,[] => rfl
  | x :: xs,y :: ys => by rw [lexc,lexN,lexc_lexN]

theorem cmpS_cmpX {a b : Sim} : cmpS a b = cmpX a b := by
  unfold cmpS cmpX
  rw [lexc_lexN]; rfl

theorem run_SortFunc (n : Nat) (args : List Dv) : run E (n + 1) n_Z81 args = pSortF n_Z16 (mkR (run E n)) args := rfl

theorem pSortF_val {m : Nat} {R : Run} {xs : List Sim} (h : xs.length ≤ 1048576 ∧ (⟨.fn m .nil,()⟩ : Dv) = ⟨.fn m .nil,()⟩ ∧ ∀ x ∈ xs,∀ y ∈ xs,R.r m [⟨tL,x⟩,⟨tL,y⟩] = some ⟨.cons tI .nil,(cmpX x y,())⟩) :
    pSortF m R [⟨tLL,xs⟩,⟨.fn m .nil,()⟩] = some ⟨.cons tLL .nil,(sortF xs,())⟩ := by
  unfold pSortF
  simp only [show (⟨tLL,xs⟩ : Dv).to tLL = some xs from rfl,Option.bind_some]
  exact if_pos h

theorem pCompF_val {m : Nat} {R : Run} {xs : List Sim} (h : xs.length ≤ 1048576 ∧ (⟨.fn m .nil,()⟩ : Dv) = ⟨.fn m .nil,()⟩ ∧ ∀ (i : Nat) (h : i + 1 < xs.length),R.r m [⟨tL,xs[i + 1]⟩,⟨tL,xs[i]⟩] = some ⟨.cons .bool .nil,(false,())⟩) :
    pCompF m R [⟨tLL,xs⟩,⟨.fn m .nil,()⟩] = some ⟨.cons tLL .nil,(xs,())⟩ := by
  unfold pCompF
  simp only [show (⟨tLL,xs⟩ : Dv).to tLL = some xs from rfl,Option.bind_some]
  exact if_pos h

theorem evt_mem {α : Type} {p : α → Nat → Prop} {l : List α} (h : ∀ x ∈ l,Evt (p x)) : Evt fun n => ∀ x ∈ l,p x n := by
  induction l with
  | nil => exact Evt.of fun n x hx => by cases hx
  | cons a l ih =>
    refine ((h a List.mem_cons_self).and (ih fun x hx => h x (List.mem_cons_of_mem _ hx))).mono fun n ⟨h1,h2⟩ x hx => ?_
    rcases List.mem_cons.1 hx with rfl | hx
    · exact h1
    · exact h2 x hx

theorem SortFunc_ret (xs : List Sim) (hs : Sm yK xs) : Ret E n_Z81 [dLL xs,⟨.fn n_Z16 .nil,()⟩] ⟨o_Z81,(sortF xs,())⟩ := by
  have hl : xs.length ≤ 1048576 := hs.1
  have hall : Evt fun n => ∀ x ∈ xs,∀ y ∈ xs,run E n n_Z16 [dL x,dL y] = some ⟨o_Z16,(cmpX x y,())⟩ :=
    evt_mem fun x hx => evt_mem fun y hy => by
      have := compareSimplices_ret x y (hs.2 x hx)
      rw [cmpS_cmpX] at this
      exact this
  refine Evt.succ (hall.mono fun n h => ?_)
  rw [run_SortFunc]
  exact pSortF_val ⟨hl,rfl,h⟩

theorem run_CompactFunc (n : Nat) (args : List Dv) : run E (n + 1) n_Z63 args = pCompF n_Z72 (mkR (run E n)) args := rfl

theorem CompactFunc_ret (xs : List Sim) (hs : Sm yK xs) (hn : ∀ (i : Nat) (h : i + 1 < xs.length),xs[i + 1] ≠ xs[i]) :
    Ret E n_Z63 [dLL xs,⟨.fn n_Z72 .nil,()⟩] ⟨o_Z63,(xs,())⟩ := by
  have hl : xs.length ≤ 1048576 := hs.1
  have hall : Evt fun n => ∀ i,i < xs.length - 1 → ∀ (h : i + 1 < xs.length),run E n n_Z72 [dL xs[i + 1],dL xs[i]] = some ⟨o_Z72,(false,())⟩ :=
    Evt.lt fun i hi => by
      have h : i + 1 < xs.length := by omega
      have h2 := EqualP_ret xs[i + 1] xs[i] (sm_get hs h).1
      rw [pb_false (hn i h)] at h2
      exact Evt.mono h2 fun n h3 _ => h3
  refine Evt.succ (hall.mono fun n h => ?_)
  rw [run_CompactFunc]
  exact pCompF_val ⟨hl,rfl,fun i hi => h i (by omega) hi⟩

theorem sortF_srt {c : List Sim} (h : Srt c) : sortF c = c := by
  refine (sortF_eq (List.Perm.refl c) (List.pairwise_iff_getElem.2 fun i j hi hj hij => ?_)).symm
  have := h i j hj hij
  rw [cmpS_cmpX] at this
  exact decide_eq_true (by omega)

theorem copyLists2_ret (rows : List Sim) (hl : rows.length ≤ 1048576) (hs : ∀ x ∈ rows,x.length ≤ 1048576) : Ret E n_Z17 [dLL rows] ⟨o_Z17,(rows,())⟩ := by
  refine ret_of ?_
  simp only [run_Z17,Z17.ev]
  refine Ev.start (p := fun φ n => Z17.l0 (mkR (run E (φ 0))) (φ 0) n rows (rows.length : Int) 0 [] = _) 1 ?_ (fun _ _ _ h => h)
  refine fold_loop 1 (L := fun φ n k o => Z17.l0 (mkR (run E (φ 0))) (φ 0) n rows (rows.length : Int) k o) (len := rows.length) (fun k => rows.take k) (fun _ _ _ _ _ => rfl) (fun k r hk ih => ?_) ?_
  · simp only [Z17.l0_succ _ mk_ok]
    rw [List.take_succ_eq_append_getElem hk] at ih
    refine ev_t (decide_eq_true (by omega)) (ev_bind (idx_lt hk) (ev_call (Clone_ret _ (hs _ (List.getElem_mem hk))) (ev_chk (by simp only [List.length_take,List.length_singleton,decide_eq_true_eq]; omega) ?_)))
    rw [w64_succ (by omega)]; exact ih
  · simp only [Z17.l0_succ _ mk_ok]
    refine ev_f (decide_eq_false (by omega)) (ev_some ?_)
    rw [List.take_of_length_le (Nat.le_refl _)]

/-- a sorted list stays -/
theorem inOrder_ret (c : List Sim) (hc : Sm yK c) (hs : Srt c) : Ret E n_Z24 [dLL c] ⟨o_Z24,(c,())⟩ := by
  have h1 := SortFunc_ret c hc
  rw [sortF_srt hs] at h1
  refine ret_of ?_
  simp only [run_Z24,Z24.ev]
  refine ev_call (copyLists2_ret c hc.1 fun x hx => (hc.2 x hx).1) (ev_call h1 (ev_call (CompactFunc_ret c hc fun i h e => ?_) ev_rfl))
  have := hs i (i + 1) h (by omega)
  rw [e,cmpS_cmpX,cmpX_zero.2 rfl] at this
  omega

theorem l05Skeleton_ret (c : List Sim) (hc : Sm yK c) (hv : VC c) : Ret E n_Z100 [dC (c,()),dI 3] ⟨o_Z100,(c,())⟩ := by
  have hl : c.length ≤ 1048576 := hc.1
  refine ret_of ?_
  simp only [run_Z100,Z100.ev]
  refine Ev.start (p := fun φ n => Z100.l0 (mkR (run E (φ 0))) (φ 0) n (c,()) 3 0 [] = _) 1 ?_ (fun _ _ _ h => h)
  refine fold_loop 1 (L := fun φ n k o => Z100.l0 (mkR (run E (φ 0))) (φ 0) n (c,()) 3 k o) (len := c.length) (fun k => c.take k) (fun _ _ _ _ _ => rfl) (fun k r hk ih => ?_) ?_
  · simp only [Z100.l0_succ _ mk_ok]
    rw [List.take_succ_eq_append_getElem hk] at ih
    have h4 := hv.len4 hk
    rw [getD_lt hk] at h4
    have e4 : w64 ((3 : Int) + 1) = 4 := w64_small (by omega) (by omega)
    refine ev_t (decide_eq_true (by show (k : Int) < (c.length : Int); omega)) (ev_bind (idx_lt hk) (ev_t (decide_eq_true (by rw [e4]; show (c[k].length : Int) ≤ 4; omega)) (ev_bind (idx_lt hk) (ev_call (l00Own_ret _ (by show c[k].length ≤ _; omega)) (ev_chk (by simp only [List.length_take,List.length_singleton,decide_eq_true_eq]; omega) ?_)))))
    rw [w64_succ (by omega)]; exact ih
  · simp only [Z100.l0_succ _ mk_ok]
    refine ev_f (decide_eq_false (by show ¬ ((c.length : Int) < (c.length : Int)); omega)) (ev_some ?_)
    rw [List.take_of_length_le (Nat.le_refl _)]

/-! stalks and zero matrices -/
theorem equalStalks_ret (c : List Sim) (n : Int) (hl : c.length ≤ 1048576) : Ret E n_Z19 [dLL c,dI n] ⟨o_Z19,(List.replicate c.length n,())⟩ := by
  refine ret_of ?_
  simp only [run_Z19,Z19.ev]
  refine Ev.start (p := fun φ q => Z19.l0 (mkR (run E (φ 0))) (φ 0) q n (c.length : Int) 0 [] = _) 1 ?_ (fun _ _ _ h => h)
  refine fold_loop 1 (L := fun φ q k o => Z19.l0 (mkR (run E (φ 0))) (φ 0) q n (c.length : Int) k o) (len := c.length) (fun k => List.replicate k n) (fun _ _ _ _ _ => rfl) (fun k r hk ih => ?_) ?_
  · simp only [Z19.l0_succ _ mk_ok]
    rw [List.replicate_succ'] at ih
    refine ev_t (decide_eq_true (by omega)) (ev_chk (by simp only [List.length_replicate,List.length_singleton,decide_eq_true_eq]; omega) ?_)
    rw [w64_succ (by omega)]; exact ih
  · simp only [Z19.l0_succ _ mk_ok]
    exact ev_f (decide_eq_false (by omega)) ev_rfl

theorem copyMatrix_ret (m : Mat) (hm : m.2.2.2.1.length ≤ 1048576) : Ret E n_Z18 [dI m.1,dI m.2.1,dI m.2.2.1,dL m.2.2.2.1] ⟨o_Z18,(m.1,m.2.1,m.2.2.1,m.2.2.2.1,())⟩ := by
  refine ret_of ?_
  simp only [run_Z18,Z18.ev]
  exact ev_call (Clone_ret _ hm) ev_rfl

/-- the zero matrix at an arrow -/
def zOf (p : Int) (st : Sim) (a : Arw) : Mat := (p,st.getD a.1.toNat 0,st.getD a.2.2.1.toNat 0,List.replicate ((st.getD a.1.toNat 0).toNat * (st.getD a.2.2.1.toNat 0).toNat) 0,())

theorem stN_get {c : List Sim} {st : Sim} (hl : st.length = c.length) (hst : ∀ x ∈ st,0 ≤ x ∧ x ≤ 3) {k : Nat} (hk : k < c.length) : ∃ n : Nat,n ≤ 3 ∧ st.getD k 0 = (n : Int) ∧ ∃ h : k < st.length,st[k] = (n : Int) := by
  have h : k < st.length := by omega
  obtain ⟨h1,h2⟩ := hst _ (List.getElem_mem h)
  exact ⟨(st[k]).toNat,by omega,by rw [getD_lt h]; omega,h,by omega⟩

theorem face_get {c : List Sim} (hs : Srt c) (hv : VC c) {k i : Nat} (hk : k < c.length) (hi : i < (fIdx c k).length) : ∃ f : Nat,f < c.length ∧ (fIdx c k)[i] = (f : Int) ∧ (fIdx c k).getD i 0 = (f : Int) := by
  obtain ⟨h1,h2,_⟩ := fc_get hv hk hi
  have e : (fIdx c k)[i] = ((fc c k i : Nat) : Int) := by rw [idx_lt hi] at h1; exact Option.some.inj h1
  exact ⟨fc c k i,h2,e,by rw [getD_lt hi,e]⟩

end VeT

open Go Go.Proofs Ve
set_option linter.unusedVariables false
set_option linter.unusedSimpArgs false
namespace VeT

/-! sheaves with given stalks -/
theorem arrs_at {c : List Sim} (hs : Srt c) (hv : VC c) {t : Nat} (ht : t < (arrs c c.length).length) :
    ∃ k i f : Nat,k < c.length ∧ i < (fIdx c k).length ∧ f < c.length ∧ (arrs c c.length)[t] = ((k : Int),(i : Int),(f : Int),()) := by
  obtain ⟨k,i,h1,h2,h3⟩ := arrs_ex ht
  obtain ⟨f,f1,f2,f3⟩ := face_get hs hv h1 h2
  refine ⟨k,i,f,h1,h2,f1,?_⟩
  have := arrs_get h1 h2
  rw [← h3,List.getElem?_eq_getElem ht,f3] at this
  exact Option.some.inj this

theorem arrs_len {c : List Sim} (hv : VC c) : (arrs c c.length).length ≤ 192 := by
  have h := hv.plc (k := c.length) (Nat.le_refl _)
  have := hv.1
  unfold plc at h
  omega

theorem l09New_ret (c : List Sim) (p : Int) (st : Sim) (hc : Sm yK c) (hv : VC c) (hl : st.length = c.length) (hst : ∀ x ∈ st,0 ≤ x ∧ x ≤ 3) :
    Ret E n_Z103 [dC (c,()),dI p,dL st] ⟨o_Z103,(c,p,st,(arrs c c.length).map (zOf p st),())⟩ := by
  have hs := hv.srt
  have h192 := arrs_len hv
  have h48 := hv.1
  refine ret_of ?_
  simp only [run_Z103,Z103.ev]
  refine ev_call (l05Skeleton_ret c hc hv) (ev_call (l00Own_ret st (by omega)) ?_)
  refine Ev.start (p := fun φ n => Z103.l0 (mkR (run E (φ 0))) (φ 0) n (c,()) p st 0 0 p [] c st = _) 1 ?_ (fun _ _ _ h => h)
  refine fold_loop 1 (L := fun φ n k o => Z103.l0 (mkR (run E (φ 0))) (φ 0) n (c,()) p st k 0 p o c st) (len := c.length) (fun k => (arrs c k).map (zOf p st)) (fun _ _ _ _ _ => rfl) (fun k r hk ih => ?_) ?_
  · simp only [Z103.l0_succ _ mk_ok]
    have hpl := hv.plc (k := k) (by omega)
    unfold plc at hpl
    have hf4 := hv.fIdx4 hk
    refine ev_t (decide_eq_true (by show (k : Int) < (c.length : Int); omega)) (ev_call (l05Faces_ret c k hk hc) ?_)
    refine Ev.start (p := fun φ n => Z103.l1 (mkR (run E (φ 0))) (φ 0) (φ 1) n (c,()) p st (k : Int) (fIdx c k) 0 0 p ((arrs c k).map (zOf p st)) c st = _) 2 ?_ (fun _ _ _ h => h)
    have := fold_loop 2 (L := fun φ n j o => Z103.l1 (mkR (run E (φ 0))) (φ 0) (φ 1) n (c,()) p st (k : Int) (fIdx c k) j 0 p o c st) (len := (fIdx c k).length) (fun j => (arrs c k ++ rowA c k j).map (zOf p st)) (r := r) (fun _ _ _ _ _ => rfl) (fun j r hj ih => ?_) ?_
    · simpa [rowA] using this
    · simp only [Z103.l1_succ _ mk_ok]
      obtain ⟨f,f1,f2,f3⟩ := face_get hs hv hk hj
      obtain ⟨a,ha,ea,hka,eka⟩ := stN_get hl hst hk
      obtain ⟨b,hb,eb,hfb,efb⟩ := stN_get hl hst f1
      have hz := l03Zero_ret p a b (by omega) (by omega)
      have e2 : zOf p st ((k : Int),(j : Int),(fIdx c k).getD j 0,()) = (p,(a : Int),(b : Int),List.replicate (a * b) 0,()) := by
        unfold zOf
        simp only [Int.toNat_natCast,ea,eb,f3]
      have erow : rowA c k (j + 1) = rowA c k j ++ [((k : Int),(j : Int),(fIdx c k).getD j 0,())] := by
        unfold rowA
        rw [List.range_succ,List.map_append,List.map_singleton]
      rw [erow,← List.append_assoc,List.map_append (l₂ := [_]),List.map_singleton,e2] at ih
      refine ev_t (decide_eq_true (by omega)) (ev_bind (idx_lt hka) (ev_bind (idx_lt hj) ?_))
      simp only [eka,f2]
      refine ev_bind (idx_lt hfb) ?_
      simp only [efb]
      refine ev_call hz (ev_chk (by simp only [List.length_map,List.length_append,rowA_length,List.length_singleton,decide_eq_true_eq]; omega) ?_)
      rw [w64_succ (by omega)]; exact ih
    · simp only [Z103.l1_succ _ mk_ok]
      refine ev_f (decide_eq_false (by omega)) ?_
      rw [w64_succ (by omega)]
      have : arrs c (k + 1) = arrs c k ++ rowA c k (fIdx c k).length := rfl
      rw [this] at ih
      exact ih
  · simp only [Z103.l0_succ _ mk_ok]
    exact ev_f (decide_eq_false (by show ¬ ((c.length : Int) < (c.length : Int)); omega)) ev_rfl

theorem l09Base_ret (c : List Sim) (p : Int) (hc : Sm yK c) : Ret E n_Z101 [dC (c,()),dI p] ⟨o_Z101,(pb (VC c ∧ Pr p),())⟩ := by
  refine ret_of ?_
  simp only [run_Z101,Z101.ev]
  refine ev_call (l05Ok_ret (c,()) hc) ?_
  by_cases h : VC c
  · refine ev_t (pb_true h) (ev_call (specValidPrime_ret p) (ev_some ?_))
    rw [pb_congr (show Pr p ↔ VC c ∧ Pr p from ⟨fun h2 => ⟨h,h2⟩,fun h2 => h2.2⟩)]
  · refine ev_f (pb_false h) (ev_some ?_)
    rw [pb_false fun h2 : VC c ∧ Pr p => h h2.1]

theorem l09Constant_ret (c : List Sim) (p : Int) (n : Nat) (hn : n ≤ 3) (hc : Sm yK c) (hv : VC c) :
    Ret E n_Z102 [dC (c,()),dI p,dI (n : Int)] ⟨o_Z102,(c,p,List.replicate c.length (n : Int),List.replicate (arrs c c.length).length (unitM p n),())⟩ := by
  have h192 := arrs_len hv
  have h48 := hv.1
  refine ret_of ?_
  simp only [run_Z102,Z102.ev]
  refine Ev.start (p := fun φ q => Z102.l0 (mkR (run E (φ 0))) (φ 0) q (c,()) p (n : Int) 0 0 [] = _) 1 ?_ (fun _ _ _ h => h)
  refine fold_loop 1 (L := fun φ q k o => Z102.l0 (mkR (run E (φ 0))) (φ 0) q (c,()) p (n : Int) k 0 o) (len := c.length) (fun k => List.replicate k (n : Int)) (fun _ _ _ _ _ => rfl) (fun k r hk ih => ?_) ?_
  · simp only [Z102.l0_succ _ mk_ok]
    rw [List.replicate_succ'] at ih
    refine ev_t (decide_eq_true (by show (k : Int) < (c.length : Int); omega)) (ev_chk (by simp only [List.length_replicate,List.length_singleton,decide_eq_true_eq]; omega) ?_)
    rw [w64_succ (by omega)]; exact ih
  · simp only [Z102.l0_succ _ mk_ok]
    have hnew := l09New_ret c p (List.replicate c.length (n : Int)) hc hv (by simp) fun x hx => by
      rw [List.eq_of_mem_replicate hx]; omega
    refine ev_f (decide_eq_false (by show ¬ ((c.length : Int) < (c.length : Int)); omega)) (ev_call hnew ?_)
    obtain ⟨M,hM⟩ : ∃ M,M = (arrs c c.length).map (zOf p (List.replicate c.length (n : Int))) := ⟨_,rfl⟩
    rw [← hM]
    have hMl : M.length = (arrs c c.length).length := by rw [hM,List.length_map]
    rw [← hMl] at h192 ⊢
    refine Ev.start (p := fun φ q => Z102.l1 (mkR (run E (φ 0))) (φ 0) q p (n : Int) 0 0 p M c (List.replicate c.length (n : Int)) = _) 1 ?_ (fun _ _ _ h => h)
    have := fold_loop 1 (L := fun φ q k o => Z102.l1 (mkR (run E (φ 0))) (φ 0) q p (n : Int) k 0 p o c (List.replicate c.length (n : Int))) (len := M.length) (fun k => List.replicate k (unitM p n) ++ M.drop k) (r := some ⟨o_Z102,(c,p,List.replicate c.length (n : Int),List.replicate M.length (unitM p n),())⟩) (fun _ _ _ _ _ => rfl) (fun k r hk ih => ?_) ?_
    · simpa using this
    · simp only [Z102.l1_succ _ mk_ok]
      have hlen : (List.replicate k (unitM p n) ++ M.drop k).length = M.length := by simp; omega
      have hset : (List.replicate k (unitM p n) ++ M.drop k).set k (unitM p n) = List.replicate (k + 1) (unitM p n) ++ M.drop (k + 1) := by
        rw [List.set_append_right _ _ (by simp),List.length_replicate,Nat.sub_self,List.drop_eq_getElem_cons hk,List.set_cons_zero,List.replicate_succ',List.append_assoc,List.singleton_append]
      refine ev_t (decide_eq_true (by rw [hlen]; omega)) (ev_call (l03Unit_ret p n (by omega)) (ev_chk (by simp only [hlen,Bool.and_eq_true,decide_eq_true_eq]; omega) ?_))
      rw [w64_succ (by omega),Int.toNat_natCast]
      have e : ((unitM p n).1,(unitM p n).2.1,(unitM p n).2.2.1,(unitM p n).2.2.2.1,()) = unitM p n := rfl
      show Ev fun φ => Z102.l1 (mkR (run E (φ 0))) (φ 0) (φ 1) p (n : Int) ((k + 1 : Nat) : Int) 0 p (List.set (List.replicate k (unitM p n) ++ M.drop k) k (unitM p n)) c (List.replicate c.length (n : Int)) = r
      rw [hset]
      exact ih
    · simp only [Z102.l1_succ _ mk_ok]
      refine ev_f (decide_eq_false (by simp)) (ev_some ?_)
      simp

end VeT

open Go Go.Proofs Ve
set_option linter.unusedVariables false
set_option linter.unusedSimpArgs false
namespace VeT

/-! marks: what the laws write over arguments and results -/
def mkL (k : Int) (n : Nat) : Sim := (List.range n).map fun (i : Nat) => k + (i : Int)

theorem mkL_length {k : Int} {n : Nat} : (mkL k n).length = n := by simp [mkL]

theorem mkL_get {k : Int} {n i : Nat} (h : i < (mkL k n).length) : (mkL k n)[i] = k + i := by simp [mkL]

theorem markInt64S_ret (s : Sim) (k : Int) (hk : 0 ≤ k ∧ k ≤ 4611686018427387904) (hs : s.length ≤ 1048576) : Ret E n_Z50 [dL s,dI k] ⟨o_Z50,(k + s.length,mkL k s.length,())⟩ := by
  refine ret_of ?_
  simp only [run_Z50,Z50.ev]
  refine Ev.start (p := fun φ n => Z50.l0 (mkR (run E (φ 0))) (φ 0) n k 0 s = _) 1 ?_ (fun _ _ _ h => h)
  have hl : ∀ j,j ≤ s.length → (mkL k j ++ s.drop j).length = s.length := fun j hj => by rw [List.length_append,mkL_length,List.length_drop]; omega
  have := fold_loop 1 (L := fun φ n j (a : Int × Sim) => Z50.l0 (mkR (run E (φ 0))) (φ 0) n a.1 j a.2) (len := s.length) (fun j => (k + (j : Int),mkL k j ++ s.drop j)) (r := some ⟨o_Z50,(k + s.length,mkL k s.length,())⟩) (fun _ _ _ _ _ => rfl) (fun j r hj ih => ?_) ?_
  · simpa [mkL] using this
  · simp only [Z50.l0_succ _ mk_ok,hl j (by omega)]
    refine ev_t (decide_eq_true (by omega)) (ev_chk (by simp; omega) ?_)
    rw [w64_succ (by omega),w64_small (by omega) (by omega),Int.toNat_natCast]
    have e : (mkL k j ++ s.drop j).set j (k + j) = mkL k (j + 1) ++ s.drop (j + 1) := by
      rw [List.drop_eq_getElem_cons hj,List.set_append_right _ _ (by rw [mkL_length]; omega),mkL_length,Nat.sub_self,List.set_cons_zero]
      unfold mkL
      rw [List.range_succ,List.map_append,List.append_assoc]; rfl
    rw [e,show k + (j : Int) + 1 = k + ((j + 1 : Nat) : Int) by omega]
    exact ih
  · simp only [Z50.l0_succ _ mk_ok,hl s.length (Nat.le_refl _)]
    refine ev_f (decide_eq_false (by omega)) (ev_some ?_)
    simp

theorem heldInt64S_ret (k : Int) (n : Nat) (hk : 0 ≤ k ∧ k ≤ 4611686018427387904) (hn : n ≤ 1048576) : Ret E n_Z45 [dL (mkL k n),dI k] ⟨o_Z45,(k + n,())⟩ := by
  refine ret_of ?_
  simp only [run_Z45,Z45.ev]
  refine Ev.start (p := fun φ m => Z45.l0 (mkR (run E (φ 0))) (φ 0) m (mkL k n) k 0 = _) 1 ?_ (fun _ _ _ h => h)
  have := fold_loop 1 (L := fun φ m j a => Z45.l0 (mkR (run E (φ 0))) (φ 0) m (mkL k n) a j) (len := n) (fun j => k + (j : Int)) (r := some ⟨o_Z45,(k + n,())⟩) (fun _ _ _ _ _ => rfl) (fun j r hj ih => ?_) ?_
  · simpa using this
  · simp only [Z45.l0_succ _ mk_ok,mkL_length]
    have hj' : j < (mkL k n).length := by rw [mkL_length]; exact hj
    refine ev_t (decide_eq_true (by omega)) (ev_bind (idx_lt hj') (ev_f (by simp [mkL_get hj']) ?_))
    rw [w64_succ (by omega),w64_small (by omega) (by omega),show k + (j : Int) + 1 = k + ((j + 1 : Nat) : Int) by omega]
    exact ih
  · simp only [Z45.l0_succ _ mk_ok,mkL_length]
    exact ev_f (decide_eq_false (by omega)) ev_rfl

def mkLL : List Sim → Int → List Sim
  | [],_ => []
  | x :: xs,k => mkL k x.length :: mkLL xs (k + x.length)
def mkN : List Sim → Int → Int
  | [],k => k
  | x :: xs,k => mkN xs (k + x.length)

theorem mkLL_length : ∀ {xs : List Sim} {k : Int},(mkLL xs k).length = xs.length
  | [],_ => rfl
  | x :: xs,k => by simp [mkLL,mkLL_length]

theorem mkN_ge : ∀ {xs : List Sim} {k : Int},(∀ x ∈ xs,x.length ≤ 1048576) → k ≤ mkN xs k ∧ mkN xs k ≤ k + 1048576 * xs.length
  | [],k,_ => by simp [mkN]
  | x :: xs,k,h => by
    have h1 := mkN_ge (xs := xs) (k := k + x.length) fun y hy => h y (List.mem_cons_of_mem _ hy)
    have h2 := h x List.mem_cons_self
    simp only [mkN,List.length_cons]; omega

theorem markRows_evt : ∀ (xs : List Sim) (k : Int),0 ≤ k → k + 1048576 * xs.length ≤ 4611686018427387904 → (∀ x ∈ xs,x.length ≤ 1048576) → Evt fun n => markRows n_Z50 (mkR (run E n)) xs k = some (mkN xs k,mkLL xs k)
  | [],k,_,_,_ => Evt.of fun _ => rfl
  | x :: xs,k,h0,hb,hx => by
    have h2 := hx x List.mem_cons_self
    simp only [List.length_cons] at hb
    have h3 := markRows_evt xs (k + x.length) (by omega) (by omega) fun y hy => hx y (List.mem_cons_of_mem _ hy)
    have h4 := markInt64S_ret x k (by omega) h2
    refine (h4.and h3).mono fun n ⟨a,b⟩ => ?_
    have a' : callT (mkR (run E n)) n_Z50 oM [⟨tL,x⟩,⟨tI,k⟩] = some (k + x.length,mkL k x.length,()) := callT_of a
    simp only [markRows,a',Option.bind_some,b,Option.map_some,mkN,mkLL]

theorem run_markSS (n : Nat) (args : List Dv) : run E (n + 1) n_Z51 args = pMarkSS n_Z50 (mkR (run E n)) args := rfl

theorem markInt64SS_ret (xs : List Sim) (k : Int) (hk : 0 ≤ k ∧ k ≤ 1125899906842624) (hs : Sm yK xs) : Ret E n_Z51 [dLL xs,dI k] ⟨o_Z51,(mkN xs k,mkLL xs k,())⟩ := by
  have hs1 : xs.length ≤ 1048576 := hs.1
  refine Evt.succ ((markRows_evt xs k hk.1 (by omega) fun x hx => (hs.2 x hx).1).mono fun n h => ?_)
  rw [run_markSS]
  show ((markRows n_Z50 (mkR (run E n)) xs k).map fun q => (⟨.cons tI (.cons (.sl tL) .nil),(q.1,q.2,())⟩ : Dv)) = _
  rw [h]; rfl

theorem heldInt64SS_ret (xs : List Sim) (k : Int) (hk : 0 ≤ k ∧ k ≤ 1125899906842624) (hs : Sm yK xs) : Ret E n_Z46 [dLL (mkLL xs k),dI k] ⟨o_Z46,(mkN xs k,())⟩ := by
  have hs1 : xs.length ≤ 1048576 := hs.1
  refine ret_of ?_
  simp only [run_Z46,Z46.ev]
  refine Ev.start (p := fun φ m => Z46.l0 (mkR (run E (φ 0))) (φ 0) m (mkLL xs k) k 0 = _) 1 ?_ (fun _ _ _ h => h)
  -- the rows that are left
  refine loopR 1 (σ := Nat × Int) (L := fun φ m s => Z46.l0 (mkR (run E (φ 0))) (φ 0) m (mkLL xs k) s.2 (s.1 : Int)) (fun _ _ _ _ => rfl) (fun s => s.1 ≤ xs.length ∧ (mkLL xs k).drop s.1 = mkLL (xs.drop s.1) s.2 ∧ mkN xs k = mkN (xs.drop s.1) s.2 ∧ k ≤ s.2 ∧ s.2 ≤ k + 1048576 * s.1) (fun _ => _) (fun s => xs.length - s.1) (fun s hi ih => ?_) (0,k) ⟨Nat.zero_le _,rfl,rfl,Int.le_refl _,by simp⟩
  obtain ⟨j,q⟩ := s
  obtain ⟨h1,h2,h3,h4,h5⟩ := hi
  simp only at h1 h2 h3 h4 h5 ih
  simp only [Z46.l0_succ _ mk_ok,mkLL_length]
  refine ev_d (fun hlt => ?_) fun hlt => ev_some ?_
  · have hj : j < xs.length := by omega
    have hj' : j < (mkLL xs k).length := by rw [mkLL_length]; exact hj
    rw [List.drop_eq_getElem_cons hj,List.drop_eq_getElem_cons hj',mkLL] at h2
    rw [List.drop_eq_getElem_cons hj,mkN] at h3
    obtain ⟨e1,e2⟩ := List.cons.inj h2
    have hx := (sm_get hs hj).1
    have hx : (xs[j]).length ≤ 1048576 := hx
    refine ev_bind (idx_lt hj') ?_
    rw [e1]
    refine ev_call (heldInt64S_ret q (xs[j]).length (by omega) hx) (ev_f (decide_eq_false (Int.not_lt.2 (by show 0 ≤ q + ((xs[j]).length : Int); omega))) ?_)
    rw [w64_succ (by omega)]
    exact ih (j + 1,q + ((xs[j]).length : Int)) ⟨by show j + 1 ≤ _; omega,e2,h3,by show k ≤ q + ((xs[j]).length : Int); omega,by show q + ((xs[j]).length : Int) ≤ k + 1048576 * ((j + 1 : Nat) : Int); omega⟩ (by show xs.length - (j + 1) < xs.length - j; omega)
  · have e : j = xs.length := by omega
    subst e
    rw [List.drop_length,mkN] at h3
    rw [h3]

end VeT

open Go Go.Proofs Ve
set_option linter.unusedVariables false
set_option linter.unusedSimpArgs false
namespace VeT

/-! marks of matrices and sheaves -/
def mkMM : List MatT → Int → List MatT
  | [],_ => []
  | x :: xs,k => (k,k + 1,k + 1 + 1,mkL (k + 1 + 1 + 1) x.2.2.2.1.length,()) :: mkMM xs (k + 1 + 1 + 1 + x.2.2.2.1.length)
def mkMN : List MatT → Int → Int
  | [],k => k
  | x :: xs,k => mkMN xs (k + 1 + 1 + 1 + x.2.2.2.1.length)

theorem mkMN_ge : ∀ {xs : List MatT} {k : Int},(∀ x ∈ xs,x.2.2.2.1.length ≤ 1048576) → k ≤ mkMN xs k ∧ mkMN xs k ≤ k + 1048579 * xs.length
  | [],k,_ => by simp [mkMN]
  | x :: xs,k,h => by
    have h1 := mkMN_ge (xs := xs) (k := k + 1 + 1 + 1 + x.2.2.2.1.length) fun y hy => h y (List.mem_cons_of_mem _ hy)
    have h2 := h x List.mem_cons_self
    simp only [mkMN,List.length_cons]; omega

theorem markRowsM_evt : ∀ (xs : List MatT) (k : Int),0 ≤ k → k + 1048579 * xs.length ≤ 4611686018427387904 → (∀ x ∈ xs,x.2.2.2.1.length ≤ 1048576) → Evt fun n => markRowsM n_Z50 (mkR (run E n)) xs k = some (mkMN xs k,mkMM xs k)
  | [],k,_,_,_ => Evt.of fun _ => rfl
  | x :: xs,k,h0,hb,hx => by
    have h2 := hx x List.mem_cons_self
    simp only [List.length_cons] at hb
    have h3 := markRowsM_evt xs (k + 1 + 1 + 1 + x.2.2.2.1.length) (by omega) (by omega) fun y hy => hx y (List.mem_cons_of_mem _ hy)
    have h4 := markInt64S_ret x.2.2.2.1 (k + 1 + 1 + 1) (by omega) h2
    refine (h4.and h3).mono fun n ⟨a,b⟩ => ?_
    have a' : callT (mkR (run E n)) n_Z50 oM [⟨tL,x.2.2.2.1⟩,⟨tI,k + 1 + 1 + 1⟩] = some (k + 1 + 1 + 1 + x.2.2.2.1.length,mkL (k + 1 + 1 + 1) x.2.2.2.1.length,()) := callT_of a
    rw [markRowsM,if_pos (by omega)]
    simp only [a',Option.bind_some,b,Option.map_some,mkMN,mkMM]

theorem run_markMS (n : Nat) (args : List Dv) : run E (n + 1) n_Z52 args = pMarkMS n_Z50 (mkR (run E n)) args := rfl

theorem markMatrixS_ret (xs : List MatT) (k : Int) (hk : 0 ≤ k ∧ k ≤ 4398046511104) (hs : Sm (.sl tM) xs) : Ret E n_Z52 [⟨.sl tM,xs⟩,⟨.int .i64,k⟩] ⟨o_Z52,(mkMN xs k,mkMM xs k,())⟩ := by
  have hs1 : xs.length ≤ 1048576 := hs.1
  refine Evt.succ ((markRowsM_evt xs k hk.1 (by omega) fun x hx => (hs.2 x hx).2.2.2.1.1).mono fun n h => ?_)
  rw [run_markMS]
  show ((markRowsM n_Z50 (mkR (run E n)) xs k).map fun q => (⟨.cons tI (.cons (.sl tM) .nil),(q.1,q.2,())⟩ : Dv)) = _
  rw [h]; rfl

theorem markComplexP_ret (xs : List Sim) (k : Int) (hk : 0 ≤ k ∧ k ≤ 1125899906842624) (hs : Sm yK xs) : Ret E n_Z49 [dLL xs,dI k] ⟨o_Z49,(mkN xs k,mkLL xs k,())⟩ := by
  refine ret_of ?_
  simp only [run_Z49,Z49.ev]
  exact ev_call (markInt64SS_ret xs k hk hs) ev_rfl

/-- the number behind a sheaf's marks -/
def mkSN (x : Shf) (k : Int) : Int := mkMN x.2.2.2.1 (mkN x.1 k + x.2.2.1.length)

end VeT

open Go Go.Proofs Ve
set_option linter.unusedVariables false
set_option linter.unusedSimpArgs false
namespace VeT

end VeT

open Go Go.Proofs Ve
set_option linter.unusedVariables false
set_option linter.unusedSimpArgs false
namespace VeT

end VeT

open Go Go.Proofs Ve
set_option linter.unusedVariables false
set_option linter.unusedSimpArgs false
namespace VeT

theorem VM.len {m : Mat} (h : VM m) : m.2.2.2.1.length ≤ 1024 := by
  obtain ⟨R,C,_,hR,hC,hl⟩ := h.nat
  have := rc_le hR hC
  omega

end VeT

open Go Go.Proofs Ve
set_option linter.unusedVariables false
set_option linter.unusedSimpArgs false
namespace VeT

theorem Rises.lt {s : Sim} (h : Rises s) : ∀ {i j : Nat} (hj : j < s.length) (hij : i < j),s[i] < s[j] := by
  intro i j
  induction j with
  | zero => intro _ h; omega
  | succ j ih =>
    intro hj hij
    have := h (j + 1) (by omega) hj
    rw [Nat.add_sub_cancel,getD_lt (by omega),getD_lt hj] at this
    by_cases e : i = j
    · subst e; exact this
    · exact Int.lt_trans (ih (by omega) (by omega)) this

end VeT

open Go Go.Proofs Ve
set_option linter.unusedVariables false
set_option linter.unusedSimpArgs false
namespace VeT

end VeT

open Go Go.Proofs Ve
set_option linter.unusedVariables false
set_option linter.unusedSimpArgs false
namespace VeT

theorem heldMatrixS_ret (xs : List Mat) (k : Int) (hk : 0 ≤ k ∧ k ≤ 4398046511104) (hs : Sm (.sl (.st cM)) xs) : Ret E n_Z47 [dMs (mkMM xs k),dI k] ⟨o_Z47,(mkMN xs k,())⟩ := by
  have hs1 : xs.length ≤ 1048576 := hs.1
  have hlen : ∀ {xs : List Mat} {k : Int},(mkMM xs k).length = xs.length := by
    intro xs
    induction xs with
    | nil => intro k; rfl
    | cons x xs ih => intro k; simp [mkMM,ih]
  refine ret_of ?_
  simp only [run_Z47,Z47.ev]
  refine Ev.start (p := fun φ m => Z47.l0 (mkR (run E (φ 0))) (φ 0) m (mkMM xs k) k 0 = _) 1 ?_ (fun _ _ _ h => h)
  refine loopR 1 (σ := Nat × Int) (L := fun φ m s => Z47.l0 (mkR (run E (φ 0))) (φ 0) m (mkMM xs k) s.2 (s.1 : Int)) (fun _ _ _ _ => rfl) (fun s => s.1 ≤ xs.length ∧ (mkMM xs k).drop s.1 = mkMM (xs.drop s.1) s.2 ∧ mkMN xs k = mkMN (xs.drop s.1) s.2 ∧ k ≤ s.2 ∧ s.2 ≤ k + 1048579 * s.1) (fun _ => _) (fun s => xs.length - s.1) (fun s hi ih => ?_) (0,k) ⟨Nat.zero_le _,rfl,rfl,Int.le_refl _,by simp⟩
  obtain ⟨j,q⟩ := s
  obtain ⟨h1,h2,h3,h4,h5⟩ := hi
  simp only at h1 h2 h3 h4 h5 ih
  simp only [Z47.l0_succ _ mk_ok,hlen]
  refine ev_d (fun hlt => ?_) fun hlt => ev_some ?_
  · have hj : j < xs.length := by omega
    have hj' : j < (mkMM xs k).length := by rw [hlen]; exact hj
    rw [List.drop_eq_getElem_cons hj,List.drop_eq_getElem_cons hj',mkMM] at h2
    rw [List.drop_eq_getElem_cons hj,mkMN] at h3
    obtain ⟨e1,e2⟩ := List.cons.inj h2
    have hx := (sm_mat hs hj).2.2.2.1.1
    have hx : (xs[j]).2.2.2.1.length ≤ 1048576 := hx
    have w1 : w64 (q + 1) = q + 1 := w64_small (by omega) (by omega)
    have w2 : w64 (q + 1 + 1) = q + 1 + 1 := w64_small (by omega) (by omega)
    have w3 : w64 (q + 1 + 1 + 1) = q + 1 + 1 + 1 := w64_small (by omega) (by omega)
    have hg : (mkMM xs k)[j]? = some (q,q + 1,q + 1 + 1,mkL (q + 1 + 1 + 1) (xs[j]).2.2.2.1.length,()) := by rw [List.getElem?_eq_getElem hj',e1]
    simp only [w1,w2,w3]
    refine ev_bind (idx_nat.trans hg) (ev_f (by simp) (ev_bind (idx_nat.trans hg) (ev_f (by simp) (ev_bind (idx_nat.trans hg) (ev_f (by simp) (ev_bind (idx_nat.trans hg) (ev_call (heldInt64S_ret (q + 1 + 1 + 1) (xs[j]).2.2.2.1.length (by omega) hx) (ev_f (decide_eq_false (Int.not_lt.2 (by show 0 ≤ q + 1 + 1 + 1 + ((xs[j]).2.2.2.1.length : Int); omega))) ?_))))))))
    rw [w64_succ (by omega)]
    exact ih (j + 1,q + 1 + 1 + 1 + ((xs[j]).2.2.2.1.length : Int)) ⟨by show j + 1 ≤ _; omega,e2,h3,by show k ≤ q + 1 + 1 + 1 + ((xs[j]).2.2.2.1.length : Int); omega,by show q + 1 + 1 + 1 + ((xs[j]).2.2.2.1.length : Int) ≤ k + 1048579 * ((j + 1 : Nat) : Int); omega⟩ (by show xs.length - (j + 1) < xs.length - j; omega)
  · have e : j = xs.length := by omega
    subst e
    rw [List.drop_length,mkMN] at h3
    rw [h3]

end VeT

open Go Go.Proofs Ve
set_option linter.unusedVariables false
set_option linter.unusedSimpArgs false
namespace VeT

/-! marks of a sheaf that is a result -/
theorem heldComplex_ret (xs : List Sim) (k : Int) (hk : 0 ≤ k ∧ k ≤ 1125899906842624) (hs : Sm yK xs) : Ret E n_Z44 [dLL (mkLL xs k),dI k] ⟨o_Z44,(mkN xs k,())⟩ := by
  have h1 : xs.length ≤ 1048576 := hs.1
  have g := mkN_ge (xs := xs) (k := k) fun y hy => (hs.2 y hy).1
  refine ret_of ?_
  simp only [run_Z44,Z44.ev]
  exact ev_call (heldInt64SS_ret xs k hk hs) (ev_f (decide_eq_false (Int.not_lt.2 (by show 0 ≤ mkN xs k; omega))) ev_rfl)

theorem markSheafR_ret (x : Shf) (hx : Sm (.st cS) x) : Ret E n_Z53 [dLL x.1,dI x.2.1,dL x.2.2.1,dMs x.2.2.2.1,dI 1] ⟨o_Z53,(mkSN x 1,mkLL x.1 1,mkL (mkN x.1 1) x.2.2.1.length,mkMM x.2.2.2.1 (mkN x.1 1 + x.2.2.1.length),())⟩ := by
  have h1 : Sm yK x.1 := hx.1
  have h2 : x.2.2.1.length ≤ 1048576 := hx.2.2.1.1
  have h3 : Sm (.sl tM) x.2.2.2.1 := hx.2.2.2.1
  have l1 : x.1.length ≤ 1048576 := h1.1
  have l3 : x.2.2.2.1.length ≤ 1048576 := h3.1
  have g1 := mkN_ge (xs := x.1) (k := 1) fun y hy => (h1.2 y hy).1
  refine ret_of ?_
  simp only [run_Z53,Z53.ev]
  exact ev_call (markComplexP_ret x.1 1 (by omega) h1) (ev_call (markInt64S_ret x.2.2.1 (mkN x.1 1) (by omega) h2) (ev_call (markMatrixS_ret x.2.2.2.1 (mkN x.1 1 + x.2.2.1.length) (by omega) h3) ev_rfl))

theorem heldSheaf_ret (x : Shf) (hx : Sm (.st cS) x) : Ret E n_Z48 [dLL (mkLL x.1 1),dI x.2.1,dL (mkL (mkN x.1 1) x.2.2.1.length),dMs (mkMM x.2.2.2.1 (mkN x.1 1 + x.2.2.1.length)),dI 1] ⟨o_Z48,(mkSN x 1,())⟩ := by
  have h1 : Sm yK x.1 := hx.1
  have h2 : x.2.2.1.length ≤ 1048576 := hx.2.2.1.1
  have h3 : Sm (.sl tM) x.2.2.2.1 := hx.2.2.2.1
  have l1 : x.1.length ≤ 1048576 := h1.1
  have l3 : x.2.2.2.1.length ≤ 1048576 := h3.1
  have g1 := mkN_ge (xs := x.1) (k := 1) fun y hy => (h1.2 y hy).1
  have g3 := mkMN_ge (xs := x.2.2.2.1) (k := mkN x.1 1 + x.2.2.1.length) fun y hy => (h3.2 y hy).2.2.2.1.1
  refine ret_of ?_
  simp only [run_Z48,Z48.ev]
  refine ev_call (heldComplex_ret x.1 1 (by omega) h1) (ev_f (decide_eq_false (Int.not_lt.2 (by show 0 ≤ mkN x.1 1; omega))) ?_)
  refine ev_call (heldInt64S_ret (mkN x.1 1) x.2.2.1.length (by omega) h2) (ev_f (decide_eq_false (Int.not_lt.2 (by show 0 ≤ mkN x.1 1 + (x.2.2.1.length : Int); omega))) ?_)
  refine ev_call (heldMatrixS_ret x.2.2.2.1 (mkN x.1 1 + x.2.2.1.length) (by omega) h3) (ev_f (decide_eq_false (Int.not_lt.2 (by show 0 ≤ mkMN x.2.2.2.1 (mkN x.1 1 + (x.2.2.1.length : Int)); omega))) ev_rfl)

theorem mkSN_ge (x : Shf) (hx : Sm (.st cS) x) : 0 ≤ mkSN x 1 := by
  have h1 : Sm yK x.1 := hx.1
  have h3 : Sm (.sl tM) x.2.2.2.1 := hx.2.2.2.1
  have g1 := mkN_ge (xs := x.1) (k := 1) fun y hy => (h1.2 y hy).1
  have g3 := mkMN_ge (xs := x.2.2.2.1) (k := mkN x.1 1 + x.2.2.1.length) fun y hy => (h3.2 y hy).2.2.2.1.1
  unfold mkSN
  omega

noncomputable abbrev nilS (e : Int) : List Sim × Int × Sim × List Mat × Int × Unit := ([],0,[],[],e,())

theorem sm_nilS : Sm (.st cS) ([],0,[],[],()) := ⟨⟨by show (0 : Nat) ≤ 1048576; omega,fun _ h => by cases h⟩,trivial,⟨by show (0 : Nat) ≤ 1048576; omega,fun _ h => by cases h⟩,⟨by show (0 : Nat) ≤ 1048576; omega,fun _ h => by cases h⟩,trivial⟩

end VeT

open Go Go.Proofs Ve
set_option linter.unusedVariables false
set_option linter.unusedSimpArgs false
namespace VeT

/-! the simplices of a dimension stand beside each other -/
theorem len_mono {c : List Sim} (h : Srt c) {i j : Nat} (hij : i ≤ j) (hj : j < c.length) : (c.getD i []).length ≤ (c.getD j []).length := by
  rw [getD_lt (by omega),getD_lt hj]
  by_cases e : i = j
  · subst e; exact Nat.le_refl _
  · have := h i j hj (by omega)
    rw [cmpS_lt] at this
    omega

theorem ofDim_run {c : List Sim} (h : Srt c) {d x : Int} (hx : x ∈ ofDim c d c.length) :
    ∃ s f0 : Nat,x = (s : Int) ∧ s < c.length ∧ f0 ≤ s ∧ (ofDim c d c.length).head? = some (f0 : Int) ∧ idxf (fun y => pb (y = x)) (ofDim c d c.length) = ((s - f0 : Nat) : Int) ∧ s - f0 < (ofDim c d c.length).length := by
  obtain ⟨s,rfl,hs,hd⟩ := ofDim_iff.1 hx
  obtain ⟨tl,hL⟩ := ofDim_pre hs hd
  have hne : ofDim c d c.length ≠ [] := by rw [hL]; simp
  obtain ⟨y,hy⟩ : ∃ y,(ofDim c d c.length).head? = some y := by
    cases hh : ofDim c d c.length with
    | nil => exact absurd hh hne
    | cons y l => exact ⟨y,rfl⟩
  have hym : y ∈ ofDim c d c.length := List.mem_of_head? hy
  obtain ⟨f0,rfl,hf,hfd⟩ := ofDim_iff.1 hym
  obtain ⟨tl2,hL2⟩ := ofDim_pre hf hfd
  have hz : ofDim c d f0 = [] := by
    cases hh : ofDim c d f0 with
    | nil => rfl
    | cons z l =>
      have hz : z ∈ ofDim c d f0 := by rw [hh]; exact List.mem_cons_self
      obtain ⟨i,rfl,hi⟩ := ofDim_mem hz
      rw [hL2,hh] at hy
      have : ((i : Nat) : Int) = f0 := by simpa using hy
      omega
  have hfs : f0 ≤ s := by
    refine Classical.byContradiction fun hn => ?_
    have : ((s : Nat) : Int) ∈ ofDim c d f0 := ofDim_iff.2 ⟨s,rfl,by omega,hd⟩
    rw [hz] at this; cases this
  have hlen : ∀ t,f0 + t ≤ s → (ofDim c d (f0 + t)).length = t := by
    intro t
    induction t with
    | zero => intro _; rw [Nat.add_zero,hz]; rfl
    | succ t ih =>
      intro ht
      have h1 := len_mono h (show f0 ≤ f0 + t by omega) (by omega)
      have h2 := len_mono h (show f0 + t ≤ s by omega) hs
      rw [← Nat.add_assoc,ofDim_succ,if_pos (by omega),List.length_append,ih (by omega)]; rfl
  have hls := hlen (s - f0) (by omega)
  rw [show f0 + (s - f0) = s by omega] at hls
  refine ⟨s,f0,rfl,hs,hfs,hy,?_,by rw [hL,List.length_append,hls]; simp⟩
  unfold idxf
  have : (ofDim c d c.length).findIdx? (fun y => pb (y = (s : Int))) = some (s - f0) := by
    rw [List.findIdx?_eq_some_iff_getElem]
    refine ⟨by rw [hL,List.length_append,hls]; simp,?_,fun j hj => ?_⟩
    · refine pb_true ?_
      have : (ofDim c d c.length)[s - f0]? = some (s : Int) := by
        rw [hL,List.getElem?_append_right (by omega),hls,Nat.sub_self]; rfl
      exact (List.getElem?_eq_some_iff.1 this).2
    · rw [pb_iff]
      intro e
      have hj' : j < (ofDim c d s).length := by omega
      have : (ofDim c d c.length)[j]? = some (ofDim c d s)[j] := by
        rw [hL,List.getElem?_append_left hj',List.getElem?_eq_getElem hj']
      have e2 := (List.getElem?_eq_some_iff.1 this).2
      rw [e] at e2
      obtain ⟨i,hi,hi2⟩ := ofDim_mem (List.getElem_mem hj')
      rw [← e2] at hi
      omega
  rw [this]; rfl

end VeT

open Go Go.Proofs Ve
set_option linter.unusedVariables false
set_option linter.unusedSimpArgs false
namespace VeT

/-! the closure of simplices -/
/-- a face,or the whole -/
def Fa (x s : Sim) : Prop := x ≠ [] ∧ x.Sublist s
def Cl (c : List Sim) : Prop := ∀ y ∈ c,∀ x,Fa x y → x ∈ c

theorem sub_erase : ∀ {x s : Sim},x.Sublist s → x ≠ s → ∃ i,i < s.length ∧ x.Sublist (s.eraseIdx i)
  | _,_,.slnil,h => absurd rfl h
  | x,_,.cons a h,_ => ⟨0,by simp,by simpa using h⟩
  | _,_,.cons_cons (l₁ := l) (l₂ := l') a h,hn => by
    obtain ⟨i,hi,hs⟩ := sub_erase h fun e => hn (by rw [e])
    exact ⟨i + 1,by simp; omega,by simpa using hs⟩

theorem fa_iff {x s : Sim} : Fa x s ↔ (x = s ∧ s ≠ []) ∨ ∃ i,i < s.length ∧ Fa x (s.eraseIdx i) := by
  constructor
  · rintro ⟨h1,h2⟩
    by_cases e : x = s
    · exact .inl ⟨e,e ▸ h1⟩
    · obtain ⟨i,hi,hs⟩ := sub_erase h2 e
      exact .inr ⟨i,hi,h1,hs⟩
  · rintro (⟨rfl,h⟩ | ⟨i,hi,h1,h2⟩)
    · exact ⟨h,List.Sublist.refl _⟩
    · exact ⟨h1,h2.trans (List.eraseIdx_sublist _ _)⟩

theorem fa_trans {x y z : Sim} (h1 : Fa x y) (h2 : Fa y z) : Fa x z := ⟨h1.1,h1.2.trans h2.2⟩
theorem fa_len {x s : Sim} (h : Fa x s) : x.length ≤ s.length := h.2.length_le

theorem VC.cl {c : List Sim} (h : VC c) : Cl c := by
  have main : ∀ (n : Nat) (y : Sim),y.length = n → y ∈ c → ∀ x,Fa x y → x ∈ c := by
    intro n
    induction n with
    | zero =>
      intro y hy hm x hf
      have := fa_len hf
      exact absurd (List.length_eq_zero_iff.1 (by omega)) hf.1
    | succ n ih =>
      intro y hy hm x hf
      rcases fa_iff.1 hf with ⟨rfl,_⟩ | ⟨i,hi,hf2⟩
      · exact hm
      · have hl : (y.eraseIdx i).length = n := by rw [List.length_eraseIdx,if_pos hi]; omega
        have h1 : 1 < y.length := by
          have := fa_len hf2
          have := List.length_pos_iff.2 hf2.1
          omega
        obtain ⟨k,hk,e⟩ := List.mem_iff_getElem.1 hm
        have := h.2.2.2 k hk (y.eraseIdx i) (by rw [getD_lt hk,e]; exact faces_mem.2 ⟨h1,i,hi,rfl⟩)
        exact ih _ hl this x hf2
  exact fun y hy x hf => main y.length y rfl hy x hf

end VeT

open Go Go.Proofs Ve
set_option linter.unusedVariables false
set_option linter.unusedSimpArgs false
namespace VeT

/-! sheaves with factors -/
noncomputable def edgN (c : List Sim) (k : Nat) : Nat := (findI c ((c.getD k []).take 2) - (ofDim c 1 c.length).getD 0 0).toNat
noncomputable def twE (c : List Sim) (p : Int) (u : Sim) (k i : Nat) : Mat := if i = 0 then (p,1,1,[u.getD (edgN c k) 0],()) else unitM p 1
noncomputable def twA (c : List Sim) (p : Int) (u : Sim) (a : Arw) : Mat := twE c p u a.1.toNat a.2.1.toNat

/-- the edge below a simplex -/
theorem edge_at {c : List Sim} (hv : VC c) {k : Nat} (hk : k < c.length) (h1 : 1 < (c.getD k []).length) :
    ∃ s f0 : Nat,findI c ((c.getD k []).take 2) = (s : Int) ∧ f0 ≤ s ∧ idx? (ofDim c 1 c.length) 0 = some (f0 : Int) ∧ edgN c k = s - f0 ∧
      idxf (fun y => pb (y = (s : Int))) (ofDim c 1 c.length) = ((s - f0 : Nat) : Int) ∧ s - f0 < (ofDim c 1 c.length).length ∧ s < c.length := by
  have hm : c.getD k [] ∈ c := by rw [getD_lt hk]; exact List.getElem_mem hk
  have hin : (c.getD k []).take 2 ∈ c := hv.cl _ hm _ ⟨fun e => by have := congrArg List.length e; rw [List.length_take,show ([] : Sim).length = 0 from rfl] at this; omega,List.take_sublist _ _⟩
  obtain ⟨s0,hs0⟩ := Int.eq_ofNat_of_zero_le (findI_nonneg.2 hin)
  have hlt := (findI_lt (c := c) (s := (c.getD k []).take 2)).1
  have hg := findI_get hin
  rw [hs0,Int.toNat_natCast] at hg
  have hx : ((s0 : Nat) : Int) ∈ ofDim c 1 c.length := ofDim_iff.2 ⟨s0,rfl,by omega,by rw [hg,List.length_take]; omega⟩
  obtain ⟨s,f0,e1,h2,h3,h4,h5,h6⟩ := ofDim_run hv.srt hx
  obtain rfl : s0 = s := by omega
  have h0 : idx? (ofDim c 1 c.length) 0 = some (f0 : Int) := by
    cases hl : ofDim c 1 c.length with
    | nil => rw [hl] at h4; cases h4
    | cons y l => rw [hl] at h4; obtain rfl := Option.some.inj h4; rfl
  refine ⟨s0,f0,hs0,h3,h0,?_,h5,h6,h2⟩
  unfold edgN
  rw [hs0]
  have : (ofDim c 1 c.length).getD 0 0 = (f0 : Int) := by
    cases hl : ofDim c 1 c.length with
    | nil => rw [hl] at h4; cases h4
    | cons y l => rw [hl] at h4; obtain rfl := Option.some.inj h4; rfl
  rw [this]; omega

theorem fIdx_len1 {c : List Sim} {k i : Nat} (hi : i < (fIdx c k).length) : 1 < (c.getD k []).length := by
  rw [fIdx_length] at hi
  split at hi
  · assumption
  · omega

theorem TwistedSheaf_2_ret (c : List Sim) (p : Int) (u : Sim) (k i : Nat) (f : Int) (hc : Sm yK c) (hv : VC c) (hu : u.length = (ofDim c 1 c.length).length) (hk : k < c.length) (hi : i < (fIdx c k).length) :
    Ret E n_Z7 [dI (k : Int),dI (i : Int),dI f,⟨.ptr (.cons yI .nil),(p,())⟩,⟨.ptr (.cons yK .nil),(c,())⟩,⟨.ptr (.cons yL .nil),(u,())⟩,⟨.ptr (.cons yL .nil),(ofDim c 1 c.length,())⟩] ⟨o_Z7,twE c p u k i⟩ := by
  have h1 := fIdx_len1 hi
  have hl : c.length ≤ 1048576 := hc.1
  have hol := ofDim_length c 1 c.length
  obtain ⟨s,f0,e1,e2,e3,e4,e5,e6,e7⟩ := edge_at hv hk h1
  refine ret_of ?_
  simp only [run_Z7,Z7.ev]
  unfold twE
  by_cases h0 : i = 0
  · subst h0
    rw [if_pos rfl,e4]
    have hk4 := hv.len4 hk
    rw [getD_lt hk] at h1 e1 hk4
    refine ev_f (decide_eq_false (by omega)) (ev_bind (idx_lt hk) (ev_chk (by simp only [Bool.and_eq_true,decide_eq_true_eq]; omega) ?_))
    have hix := indexOf_ret c (c[k].take 2) hc hv.srt
    rw [e1] at hix
    have hin := Index_ret (ofDim c 1 c.length) (s : Int) (by omega)
    rw [e5] at hin
    have hsu : s - f0 < u.length := by omega
    refine ev_call hix (ev_call hin (ev_bind (idx_lt hsu) (ev_some ?_)))
    rw [getD_lt hsu]
  · rw [if_neg h0]
    exact ev_t (decide_eq_true (by omega)) (ev_call (unit_ret p 1 (by omega)) ev_rfl)

theorem twE_len {c : List Sim} {p : Int} {u : Sim} {k i : Nat} : (twE c p u k i).2.2.2.1.length = 1 := by
  unfold twE
  split
  · rfl
  · rfl

theorem sheafOfTwisted_ret (c : List Sim) (p : Int) (u st : Sim) (hc : Sm yK c) (hv : VC c) (hu : u.length = (ofDim c 1 c.length).length) (hl : st.length = c.length) :
    Ret E n_Z28 [dLL c,dI p,dL st,⟨.fn n_Z7 (.cons (.ptr (.cons yI .nil)) (.cons (.ptr (.cons yK .nil)) (.cons (.ptr (.cons yL .nil)) (.cons (.ptr (.cons yL .nil)) .nil)))),((p,()),(c,()),(u,()),(ofDim c 1 c.length,()),())⟩]
      ⟨o_Z28,(c,p,st,(arrs c c.length).map (twA c p u),())⟩ := by
  have hs := hv.srt
  have h192 := arrs_len hv
  have h48 := hv.1
  refine ret_of ?_
  simp only [run_Z28,Z29.ev]
  refine ev_call (inOrder_ret c hc hs) (ev_call (Clone_ret st (by omega)) (ev_call (arrows_ret c hc hv) ?_))
  refine Ev.start (p := fun φ m => Z29.l0 (mkR (run E (φ 0))) (φ 0) m ((p,()),(c,()),(u,()),(ofDim c 1 c.length,()),()) (arrs c c.length) ((arrs c c.length).length : Int) 0 0 p [] c st = _) 1 ?_ (fun _ _ _ h => h)
  have := fold_loop 1 (L := fun φ m k o => Z29.l0 (mkR (run E (φ 0))) (φ 0) m ((p,()),(c,()),(u,()),(ofDim c 1 c.length,()),()) (arrs c c.length) ((arrs c c.length).length : Int) k 0 p o c st) (len := (arrs c c.length).length) (fun k => ((arrs c c.length).take k).map (twA c p u)) (r := some ⟨o_Z28,(c,p,st,(arrs c c.length).map (twA c p u),())⟩) (fun _ _ _ _ _ => rfl) (fun k r hk ih => ?_) ?_
  · simpa using this
  · simp only [Z29.l0_succ _ mk_ok]
    obtain ⟨q,i,f,g1,g2,g3,e⟩ := arrs_at hs hv hk
    have hr := TwistedSheaf_2_ret c p u q i f hc hv hu g1 g2
    have ht : twE c p u q i = twA c p u (arrs c c.length)[k] := by rw [e]; unfold twA; simp only [Int.toNat_natCast]
    rw [List.take_succ_eq_append_getElem hk,List.map_append,List.map_singleton,← ht] at ih
    refine ev_t (decide_eq_true (by omega)) (ev_bind (idx_lt hk) ?_)
    rw [e]
    refine ev_call hr (ev_call (copyMatrix_ret _ (by rw [twE_len]; omega)) (ev_chk (by simp only [List.length_map,List.length_take,List.length_singleton,decide_eq_true_eq]; omega) ?_))
    rw [w64_succ (by omega)]; exact ih
  · simp only [Z29.l0_succ _ mk_ok]
    refine ev_f (decide_eq_false (by omega)) (ev_some ?_)
    rw [List.take_of_length_le (Nat.le_refl _)]

theorem rowA_tw {c : List Sim} {p : Int} {u : Sim} {k n : Nat} : (rowA c k (n + 1)).map (twA c p u) = twE c p u k 0 :: List.replicate n (unitM p 1) := by
  apply List.ext_getElem
  · simp [rowA]
  · intro i h1 h2
    have : ((rowA c k (n + 1)).map (twA c p u))[i] = twE c p u k i := by
      rw [List.getElem_map]
      have e : (rowA c k (n + 1))[i]'(by simpa using h1) = ((k : Int),(i : Int),(fIdx c k).getD i 0,()) := by simp [rowA]
      rw [e]
      unfold twA
      simp only [Int.toNat_natCast]
    rw [this]
    cases i with
    | zero => rfl
    | succ i =>
      rw [List.getElem_cons_succ,List.getElem_replicate]
      unfold twE
      rw [if_neg (by omega)]

theorem l09Twisted_ret (c : List Sim) (p : Int) (u : Sim) (hc : Sm yK c) (hv : VC c) (hu : u.length = (ofDim c 1 c.length).length) :
    Ret E n_Z107 [dC (c,()),dI p,dL u] ⟨o_Z107,(c,p,List.replicate c.length 1,(arrs c c.length).map (twA c p u),())⟩ := by
  have hs := hv.srt
  have h192 := arrs_len hv
  have h48 := hv.1
  have hl : c.length ≤ 1048576 := hc.1
  have hcon : Ret E n_Z102 [dC (c,()),dI p,dI 1] ⟨o_Z102,(c,p,List.replicate c.length 1,List.replicate (arrs c c.length).length (unitM p 1),())⟩ := l09Constant_ret c p 1 (by omega) hc hv
  refine ret_of ?_
  simp only [run_Z107,Z107.ev]
  refine ev_call hcon (ev_call (l05Of_ret c 1 hc (by omega)) ?_)
  generalize hst : List.replicate c.length (1 : Int) = st
  refine Ev.start (p := fun φ m => Z107.l0 (mkR (run E (φ 0))) (φ 0) m (c,()) u (ofDim c 1 c.length) 0 0 p (List.replicate (arrs c c.length).length (unitM p 1)) c st = _) 1 ?_ (fun _ _ _ h => h)
  have hplc : ∀ k,k ≤ c.length → (arrs c k).length ≤ (arrs c c.length).length := fun k hk => by
    have : ∀ d k,k + d = c.length → (arrs c k).length ≤ (arrs c c.length).length := by
      intro d
      induction d with
      | zero => intro k hk; rw [show k = c.length by omega]; exact Nat.le_refl _
      | succ d ih =>
        intro k hk
        have h1 := ih (k + 1) (by omega)
        have : (arrs c (k + 1)).length = (arrs c k).length + (fIdx c k).length := plc_succ
        omega
    exact this (c.length - k) k (by omega)
  have := fold_loop 1 (L := fun φ m k o => Z107.l0 (mkR (run E (φ 0))) (φ 0) m (c,()) u (ofDim c 1 c.length) k 0 p o c st) (len := c.length) (fun k => (arrs c k).map (twA c p u) ++ List.replicate ((arrs c c.length).length - (arrs c k).length) (unitM p 1)) (r := some ⟨o_Z107,(c,p,st,(arrs c c.length).map (twA c p u),())⟩) (fun _ _ _ _ _ => rfl) (fun k r hk ih => ?_) ?_
  · exact this
  · simp only [Z107.l0_succ _ mk_ok]
    have hsucc : arrs c (k + 1) = arrs c k ++ rowA c k (fIdx c k).length := rfl
    have hle := hplc (k + 1) (by omega)
    have hls : (arrs c (k + 1)).length = (arrs c k).length + (fIdx c k).length := plc_succ
    have hfl := fIdx_length (c := c) (k := k)
    refine ev_t (decide_eq_true (by show (k : Int) < (c.length : Int); omega)) (ev_bind (idx_lt hk) ?_)
    by_cases h1 : 1 < (c.getD k []).length
    · obtain ⟨s,f0,e1,e2,e3,e4,e5,e6,e7⟩ := edge_at hv hk h1
      rw [if_pos h1] at hfl
      obtain ⟨n,hn⟩ : ∃ n,(fIdx c k).length = n + 1 := ⟨(fIdx c k).length - 1,by omega⟩
      have hgk : c[k] = c.getD k [] := (getD_lt hk).symm
      have hfd := l05Find_ret (c,()) (c[k].take 2) hc
      simp only at hfd
      rw [hgk,e1] at hfd
      have hsu : s - f0 < u.length := by omega
      have hpl := l09Place_ret c k 0 (by omega) (by omega) hv
      have hpl0 : plc c k + 0 = (arrs c k).length := rfl
      rw [hpl0] at hpl
      have hget : ((arrs c k).map (twA c p u) ++ List.replicate ((arrs c c.length).length - (arrs c k).length) (unitM p 1))[(arrs c k).length]? = some (unitM p 1) := by
        rw [List.getElem?_append_right (by simp),List.length_map,Nat.sub_self,List.getElem?_replicate,if_pos (by omega)]
      have hlen : ((arrs c k).map (twA c p u) ++ List.replicate ((arrs c c.length).length - (arrs c k).length) (unitM p 1)).length = (arrs c c.length).length := by simp; omega
      have hset : List.set ((arrs c k).map (twA c p u) ++ List.replicate ((arrs c c.length).length - (arrs c k).length) (unitM p 1)) (arrs c k).length (twE c p u k 0) = (arrs c (k + 1)).map (twA c p u) ++ List.replicate ((arrs c c.length).length - (arrs c (k + 1)).length) (unitM p 1) := by
        rw [hsucc,List.map_append,hn,rowA_tw,List.set_append_right _ _ (by simp),List.length_map,Nat.sub_self]
        obtain ⟨m,hm⟩ : ∃ m,(arrs c c.length).length - (arrs c k).length = n + 1 + m := ⟨(arrs c c.length).length - (arrs c k).length - (n + 1),by omega⟩
        rw [hm,show n + 1 + m = (n + m) + 1 by omega,List.replicate_succ,List.set_cons_zero,List.append_assoc,List.cons_append]
        congr 2
        rw [List.length_append,rowA_length,← List.replicate_append_replicate]
        congr 2
        omega
      rw [hgk]
      refine ev_t (decide_eq_true (by show (1 : Int) < ((c.getD k []).length : Int); omega)) (ev_chk (by simp only [Bool.and_eq_true,decide_eq_true_eq]; omega) (ev_bind e3 (ev_call hfd ?_)))
      simp only
      rw [w64_small (n := (s : Int) - (f0 : Int)) (by omega) (by omega),show (s : Int) - (f0 : Int) = ((s - f0 : Nat) : Int) by omega]
      refine ev_bind (idx_lt hsu) (ev_call hpl (ev_chk (b := decide (0 ≤ (((arrs c k).length : Nat) : Int)) && decide ((((arrs c k).length : Nat) : Int) < (((arrs c k).map (twA c p u) ++ List.replicate ((arrs c c.length).length - (arrs c k).length) (unitM p 1)).length : Int))) (by rw [decide_eq_true (by omega),decide_eq_true (by rw [hlen]; omega)]; rfl) ?_))
      simp only [Int.toNat_natCast]
      refine ev_bind hget (ev_chk rfl (ev_bind hget ?_))
      rw [w64_succ (by omega)]
      rw [← hset] at ih
      have ht : ((unitM p 1).1,(unitM p 1).2.1,(unitM p 1).2.2.1,List.set (unitM p 1).2.2.2.1 (Int.toNat 0) u[s - f0],()) = twE c p u k 0 := by
        unfold twE
        rw [if_pos rfl,e4,getD_lt hsu]; rfl
      show Ev fun φ => Z107.l0 (mkR (run E (φ 0))) (φ 0) (φ 1) (c,()) u (ofDim c 1 c.length) ((k + 1 : Nat) : Int) 0 p (List.set ((arrs c k).map (twA c p u) ++ List.replicate ((arrs c c.length).length - (arrs c k).length) (unitM p 1)) (arrs c k).length ((unitM p 1).1,(unitM p 1).2.1,(unitM p 1).2.2.1,List.set (unitM p 1).2.2.2.1 (Int.toNat 0) u[s - f0],())) c st = r
      rw [ht]; exact ih
    · rw [if_neg h1] at hfl
      rw [getD_lt hk] at h1
      have e : arrs c (k + 1) = arrs c k := by
        rw [hsucc,hfl]; simp [rowA]
      rw [e] at ih
      refine ev_f (decide_eq_false (by show ¬ (1 : Int) < (c[k].length : Int); omega)) ?_
      rw [w64_succ (by omega)]; exact ih
  · simp only [Z107.l0_succ _ mk_ok]
    refine ev_f (decide_eq_false (by show ¬ ((c.length : Int) < (c.length : Int)); omega)) (ev_some ?_)
    simp

open Classical in
noncomputable def TwistedSheafV (c : Cpx) (p : Int) (u : Sim) : List Sim × Int × Sim × List Mat × Int × Unit :=
  if VC c.1 ∧ Pr p then (if (u.length = (ofDim c.1 1 c.1.length).length ∧ ∀ x ∈ u,1 ≤ x ∧ x ≤ p - 1) then (if SK c.1 (List.replicate c.1.length 1) then (c.1,p,List.replicate c.1.length 1,(arrs c.1 c.1.length).map (twA c.1 p u),0,()) else nilS 5) else nilS 7) else nilS 1

theorem implTwistedSheaf_ret (c : Cpx) (p : Int) (u : Sim) (sc : Sm (.st cC) c) (su : Sm yL u) : Ret E n_Z5 [dLL c.1,dI p,dL u] ⟨o_Z5,TwistedSheafV c p u⟩ := by
  have hl : c.1.length ≤ 1048576 := sc.1.1
  have hul : u.length ≤ 1048576 := su.1
  have j0 : ∀ b : Bool,b = true → ¬ (VC c.1 ∧ Pr p) → Ev fun φ => Z5.j0 (mkR (run E (φ 0))) (φ 0) b c.1 p u 0 = some ⟨o_Z5,TwistedSheafV c p u⟩ := fun b hb hn => by
    unfold TwistedSheafV
    rw [if_neg hn,hb]
    simp only [Z5.j0_eq _ mk_ok]
    exact ev_t rfl ev_rfl
  have j1 : ∀ b : Bool,b = true → (VC c.1 ∧ Pr p) → ¬ (u.length = (ofDim c.1 1 c.1.length).length ∧ ∀ x ∈ u,1 ≤ x ∧ x ≤ p - 1) → Ev fun φ => Z5.j1 (mkR (run E (φ 0))) (φ 0) b c.1 p u 0 (ofDim c.1 1 c.1.length) = some ⟨o_Z5,TwistedSheafV c p u⟩ := fun b hb hv hn => by
    unfold TwistedSheafV
    rw [if_pos hv,if_neg hn,hb]
    simp only [Z5.j1_eq _ mk_ok]
    exact ev_t rfl ev_rfl
  refine ret_of ?_
  simp only [run_Z5,Z5.ev]
  refine ev_call (ValidComplex_ret c.1 sc.1) ?_
  by_cases h1 : VC c.1
  · refine ev_f (by rw [pb_true h1]; rfl) (ev_call (ValidPrime_ret p) ?_)
    by_cases h2 : Pr p
    · simp only [Z5.j0_eq _ mk_ok]
      refine ev_f (by rw [pb_true h2]; rfl) (ev_call (simplicesOf_ret c.1 1 sc.1 (by omega)) ?_)
      by_cases h3 : u.length = (ofDim c.1 1 c.1.length).length
      · have hp2 : 2 ≤ p ∧ p ≤ 251 := ⟨h2.1,h2.2.1⟩
        have hcf := ContainsFunc_Sint64_int64_impl_TwistedSheaf_1_ret u ((p,()),()) (fun x => !pb (1 ≤ x ∧ x ≤ p - 1)) hul fun x _ => by
          refine ret_of ?_
          simp only [run_Z6,Z6.ev]
          rw [w64_small (n := p - 1) (by omega) (by omega)]
          exact ev_call (within_ret x 1 (p - 1)) ev_rfl
        refine ev_f (by simp [h3]) (ev_call hcf ?_)
        have e := none_bad (s := u) (P := fun x => 1 ≤ x ∧ x ≤ p - 1)
        by_cases h4 : ∀ x ∈ u,1 ≤ x ∧ x ≤ p - 1
        · rw [pb_true h4] at e
          have e : pb (∃ x ∈ u,(!pb (1 ≤ x ∧ x ≤ p - 1)) = true) = false := by simpa using e
          rw [e]
          simp only [Z5.j1_eq _ mk_ok]
          have he := equalStalks_ret c.1 1 hl
          unfold TwistedSheafV
          rw [if_pos ⟨h1,h2⟩,if_pos ⟨h3,h4⟩]
          refine ev_f rfl (ev_call he (ev_call (areStalks_ret c.1 _ sc.1 (by rw [List.length_replicate]; exact hl)) ?_))
          by_cases h5 : SK c.1 (List.replicate c.1.length 1)
          · rw [if_pos h5]
            exact ev_f (by rw [pb_true h5]; rfl) (ev_call (sheafOfTwisted_ret c.1 p u _ sc.1 h1 h3 (by simp)) ev_rfl)
          · rw [if_neg h5]
            exact ev_t (by rw [pb_false h5]; rfl) ev_rfl
        · rw [pb_false h4] at e
          exact j1 _ (by simpa using e) ⟨h1,h2⟩ fun h => h4 h.2
      · exact ev_t (by simp; omega) (j1 true rfl ⟨h1,h2⟩ fun h => h3 h.1)
    · exact j0 _ (by rw [pb_false h2]; rfl) fun h => h2 h.2
  · exact ev_t (by rw [pb_false h1]; rfl) (j0 true rfl fun h => h1 h.1)

theorem specTwistedSheaf_ret (c : Cpx) (p : Int) (u : Sim) (sc : Sm (.st cC) c) (su : Sm yL u) : Ret E n_Z82 [dLL c.1,dI p,dL u] ⟨o_Z82,TwistedSheafV c p u⟩ := by
  have hl : c.1.length ≤ 1048576 := sc.1.1
  have hul : u.length ≤ 1048576 := su.1
  have j0 : ∀ b : Bool,b = true → (VC c.1 ∧ Pr p) → ¬ (u.length = (ofDim c.1 1 c.1.length).length ∧ ∀ x ∈ u,1 ≤ x ∧ x ≤ p - 1) → Ev fun φ => Z82.j0 (mkR (run E (φ 0))) (φ 0) p u b c.1 0 = some ⟨o_Z82,TwistedSheafV c p u⟩ := fun b hb hv hn => by
    unfold TwistedSheafV
    rw [if_pos hv,if_neg hn,hb]
    simp only [Z82.j0_eq _ mk_ok]
    exact ev_t rfl ev_rfl
  refine ret_of ?_
  simp only [run_Z82,Z82.ev]
  refine ev_call (l09Base_ret c.1 p sc.1) ?_
  by_cases h1 : VC c.1 ∧ Pr p
  · have hp2 : 2 ≤ p ∧ p ≤ 251 := ⟨h1.2.1,h1.2.2.1⟩
    refine ev_f (by rw [pb_true h1]; rfl) (ev_call (l05Of_ret c.1 1 sc.1 (by omega)) (ev_call (l03Column_ret u _ p hul (by omega)) ?_))
    by_cases h2 : Elems u p ∧ (u.length : Int) = ((ofDim c.1 1 c.1.length).length : Int)
    · refine ev_f (by rw [pb_true h2]; rfl) (ev_call (l00Has_ret u 0 hul) ?_)
      by_cases h3 : (0 : Int) ∈ u
      · exact j0 _ (pb_true h3) h1 fun h => by have := h.2 0 h3; omega
      · rw [pb_false h3]
        simp only [Z82.j0_eq _ mk_ok]
        have h4 : u.length = (ofDim c.1 1 c.1.length).length ∧ ∀ x ∈ u,1 ≤ x ∧ x ≤ p - 1 := ⟨by omega,fun x hx => by
          have := h2.1 x hx
          have : x ≠ 0 := fun e => h3 (e ▸ hx)
          omega⟩
        unfold TwistedSheafV
        rw [if_pos h1,if_pos h4]
        refine ev_f rfl (ev_call (l09Twisted_ret c.1 p u sc.1 h1.1 h4.1) (ev_call (l09Stalks_ret c.1 (List.replicate c.1.length 1) sc.1 (by rw [List.length_replicate]; exact hl)) ?_))
        by_cases h5 : SK c.1 (List.replicate c.1.length 1)
        · rw [if_pos h5]
          exact ev_f (by rw [pb_true h5]; rfl) ev_rfl
        · rw [if_neg h5]
          exact ev_t (by rw [pb_false h5]; rfl) ev_rfl
    · refine ev_t (by rw [pb_false h2]; rfl) (j0 true rfl h1 fun h => h2 ⟨fun x hx => ?_,by omega⟩)
      have := h.2 x hx
      omega
  · refine ev_t (by rw [pb_false h1]; rfl) ?_
    unfold TwistedSheafV
    rw [if_neg h1]
    exact ev_rfl

theorem TwistedSheafV_sm (c : Cpx) (p : Int) (u : Sim) (sc : Sm (.st cC) c) (su : Sm yL u) : Sm (.st cS) ((TwistedSheafV c p u).1,(TwistedSheafV c p u).2.1,(TwistedSheafV c p u).2.2.1,(TwistedSheafV c p u).2.2.2.1,()) := by
  unfold TwistedSheafV
  split
  · rename_i h1
    split
    · split
      · have hl : c.1.length ≤ 1048576 := sc.1.1
        have h192 := arrs_len h1.1
        refine ⟨sc.1,trivial,sm_ints (by simp only [List.length_replicate]; exact hl),⟨by show (List.map _ _).length ≤ 1048576; rw [List.length_map]; omega,fun m hm => ?_⟩,trivial⟩
        obtain ⟨a,_,rfl⟩ := List.mem_map.1 hm
        exact ⟨trivial,trivial,trivial,sm_ints (by have := twE_len (c := c.1) (p := p) (u := u) (k := a.1.toNat) (i := a.2.1.toNat); unfold twA; omega),trivial⟩
      · exact sm_nilS
    · exact sm_nilS
  · exact sm_nilS

end VeT

open Go Go.Proofs Ve
set_option linter.unusedVariables false
set_option linter.unusedSimpArgs false
namespace VeT

theorem law_TwistedSheaf (x0 : Cpx) (x1 : Int) (x2 : Sim) (w0 : Wf (.st cC) x0) (w2 : Wf yL x2) : Ret E n_Z37 [dLL x0.1,dI x1,dL x2] ⟨.cons .bool .nil,(true,())⟩ := by
  refine ret_of ?_
  simp only [run_Z37,Z37.ev]
  refine ev_d (fun _ => ev_rfl) fun l2 => ?_
  have m2 : Sm yL x2 := ⟨by omega,fun _ _ => trivial⟩
  obtain ⟨r0,hs0,s0⟩ := szComplex_ret x0 1048576 w0 (by omega) (by omega)
  refine ev_call hs0 (ev_d (fun _ => ev_rfl) fun n0 => ?_)
  have n0 := Int.not_lt.1 n0
  obtain ⟨b0,m0⟩ := s0 n0
  have hi := implTwistedSheaf_ret x0 x1 x2 m0 m2
  have hsp := specTwistedSheaf_ret x0 x1 x2 m0 m2
  have hsm := TwistedSheafV_sm x0 x1 x2 m0 m2
  generalize TwistedSheafV x0 x1 x2 = V at hi hsp hsm
  obtain ⟨v0_0,v0_1,v0_2,v0_3,v1,⟨⟩⟩ := V
  have z0 : Sm (.st cS) (v0_0,v0_1,v0_2,v0_3,()) := hsm
  obtain ⟨qr0,hqr0,eqr0⟩ := eqSheaf_ret (v0_0,v0_1,v0_2,v0_3,()) (v0_0,v0_1,v0_2,v0_3,()) z0
  obtain rfl : qr0 = true := eqr0.2 rfl
  have to0 := toComplex_ret x0 m0
  obtain ⟨q0,hq0,eq0⟩ := eqComplex_ret x0 x0 m0
  obtain rfl : q0 = true := eq0.2 rfl
  have to2 := toInt64S_ret x2 m2
  obtain ⟨q2,hq2,eq2⟩ := eqInt64S_ret x2 x2 m2
  obtain rfl : q2 = true := eq2.2 rfl
  have hm0 := markComplexP_ret x0.1 (1) (by omega) m0.1
  have hmb0 := mkN_ge (xs := x0.1) (k := 1) fun y hy => (m0.1.2 y hy).1
  have hml0 : x0.1.length ≤ 1048576 := m0.1.1
  have hm2 := markInt64S_ret x2 (mkN x0.1 (1)) (by omega) m2.1
  have hk : ¬ (mkN x0.1 (1) + (x2.length : Int) < 0) := by omega
  have mr0 := markSheafR_ret (v0_0,v0_1,v0_2,v0_3,()) z0
  have hl0 := heldSheaf_ret (v0_0,v0_1,v0_2,v0_3,()) z0
  have hb0 := mkSN_ge (v0_0,v0_1,v0_2,v0_3,()) z0
  have he0 : ¬ (mkSN (v0_0,v0_1,v0_2,v0_3,()) 1 < 0) := by omega
  repeat (first | with_reducible exact ev_rfl | with_reducible refine ev_call hqr0 ?_ | with_reducible refine ev_call to0 ?_ | with_reducible refine ev_call hq0 ?_ | with_reducible refine ev_call to2 ?_ | with_reducible refine ev_call hq2 ?_ | with_reducible refine ev_call hi ?_ | with_reducible refine ev_call hsp ?_ | with_reducible refine ev_call hm0 ?_ | with_reducible refine ev_call hm2 ?_ | with_reducible refine ev_call mr0 ?_ | with_reducible refine ev_call hl0 ?_ | with_reducible refine ev_both ?_ ?_ | with_reducible refine ev_f (by first | rfl | exact bne_self_eq_false _ | exact decide_eq_false hk | exact decide_eq_false he0 | (simp; done)) ?_ | simp only [bne_self_eq_false,Z37.j0_eq _ mk_ok,Z37.j1_eq _ mk_ok,Z37.j2_eq _ mk_ok,cond_false])

theorem rowTwistedSheaf (z : ((.cons yK (.cons yI (.cons yL .nil))) : Ty).T)
    (h : Wf (.cons yK (.cons yI (.cons yL .nil))) z) :
    Evt fun n => run E n n_Z37 (unpack _ z) = some ⟨.cons .bool .nil,(true,())⟩ :=
  law_TwistedSheaf (z.1,()) z.2.1 z.2.2.1 ⟨h.1,trivial⟩ h.2.2.1

end VeT
