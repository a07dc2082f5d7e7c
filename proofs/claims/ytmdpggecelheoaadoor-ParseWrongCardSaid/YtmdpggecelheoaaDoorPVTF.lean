/- Facts of the program's types, for values with their slices, printed by wip/tools/VTG.lean. -/
import Derived.Test.YtmdpggecelheoaaDoorPTF
import Derived.Test.YtmdpggecelheoaaDoorMW9
set_option linter.unusedVariables false
namespace Go.Proofs.YtmdpggecelheoaaDoor.Abs
open Go
theorem vld3 (S : VH) (b o : Nat) : vload Tryd.prog 3 (.pointer (some ⟨b, o, none⟩)) S = (cellsIn (S.get b))[o]? := vload_cell ag3 kn3 b o
theorem vgt3 (v : Value) : vget Tryd.prog 3 v = cellV v := vget_cell ag3 kn3 v
theorem vld9 (S : VH) (b o : Nat) : vload Tryd.prog 9 (.pointer (some ⟨b, o, none⟩)) S = (cellsIn (S.get b))[o]? := vload_cell ag9 kn9 b o
theorem vgt9 (v : Value) : vget Tryd.prog 9 v = cellV v := vget_cell ag9 kn9 v
theorem vix43 (d : Nat) (l : List Value) (k : IntKind) (j : Int) : vindexAddr Tryd.prog 43 (vs d 1 l) (.int k j) = if 0 ≤ j then (l[j.toNat]?).map vp else none := vix_ro el43 sz3 d l k j
theorem vio43 (q : Tok) (off : Nat) (l : List Value) (k : IntKind) (j : Int) : vindexAddr Tryd.prog 43 (vo q 1 off l) (.int k j) = if 0 ≤ j then (l[j.toNat]?).map (vq q (off + j.toNat)) else none := vix_own el43 sz3 q off l k j
theorem vis43 (c : Bool) (d : Nat) (l : List Value) (k : IntKind) (j : Int) : vindexAddr Tryd.prog 43 (sl c d 1 l) (.int k j) = if 0 ≤ j then (l[j.toNat]?).map vp else none := vix_sl el43 sz3 c d l k j
theorem viw43 (c : Bool) (q : Tok) (l : List Value) (k : IntKind) (j : Int) : vindexAddr Tryd.prog 43 (ol c q 1 l) (.int k j) = if 0 ≤ j then (l[j.toNat]?).map (vq q j.toNat) else none := vix_ol el43 sz3 c q l k j
theorem vbd43 (len : Nat) (parts : List (Nat × Value)) (hl : len * 1 ≤ 16777216) : vbuild Tryd.prog 43 len parts = if partsOk 1 len parts = true then some (1, vfill (List.replicate len (.int .i64 0)) (parts.map fun p => (p.1, mapOwn thawAll p.2))) else none := vbuild_eq el43 if43 zu43 rfl rfl rfl rfl (by decide) len parts hl
theorem vix44 (d : Nat) (l : List Value) (k : IntKind) (j : Int) : vindexAddr Tryd.prog 44 (vs d 1 l) (.int k j) = if 0 ≤ j then (l[j.toNat]?).map vp else none := vix_ro el44 sz9 d l k j
theorem vio44 (q : Tok) (off : Nat) (l : List Value) (k : IntKind) (j : Int) : vindexAddr Tryd.prog 44 (vo q 1 off l) (.int k j) = if 0 ≤ j then (l[j.toNat]?).map (vq q (off + j.toNat)) else none := vix_own el44 sz9 q off l k j
theorem vlr44 (d sz : Nat) (l : List Value) : vlen Tryd.prog 44 (vs d sz l) = some (.int .i64 l.length) := vlen_ro el44 d sz l
theorem vlo44 (q : Tok) (sz off : Nat) (l : List Value) : vlen Tryd.prog 44 (vo q sz off l) = some (.int .i64 l.length) := vlen_own el44 q sz off l
theorem vis44 (c : Bool) (d : Nat) (l : List Value) (k : IntKind) (j : Int) : vindexAddr Tryd.prog 44 (sl c d 1 l) (.int k j) = if 0 ≤ j then (l[j.toNat]?).map vp else none := vix_sl el44 sz9 c d l k j
theorem viw44 (c : Bool) (q : Tok) (l : List Value) (k : IntKind) (j : Int) : vindexAddr Tryd.prog 44 (ol c q 1 l) (.int k j) = if 0 ≤ j then (l[j.toNat]?).map (vq q j.toNat) else none := vix_ol el44 sz9 c q l k j
theorem vls44 (c : Bool) (d sz : Nat) (l : List Value) : vlen Tryd.prog 44 (sl c d sz l) = some (.int .i64 l.length) := vlen_sl el44 c d sz l
theorem vlw44 (c : Bool) (q : Tok) (sz : Nat) (l : List Value) : vlen Tryd.prog 44 (ol c q sz l) = some (.int .i64 l.length) := vlen_ol el44 c q sz l
theorem vlz44 : vlen Tryd.prog 44 (.slice none 0 0) = some (.int .i64 0) := vlen_nil el44
theorem vbd44 (len : Nat) (parts : List (Nat × Value)) (hl : len * 1 ≤ 16777216) : vbuild Tryd.prog 44 len parts = if partsOk 1 len parts = true then some (1, vfill (List.replicate len (.string .empty)) (parts.map fun p => (p.1, mapOwn thawAll p.2))) else none := vbuild_eq el44 if44 zu44 rfl rfl rfl rfl (by decide) len parts hl
theorem vst58 (S : VH) (b o : Nat) (x : Value) : vstore Tryd.prog 58 (.pointer (some ⟨b, o, none⟩)) x S = match S.get b with | .cells true e c => (if x.cells.size = 13 ∧ isTup x = false ∧ o + 13 ≤ c.length then vlay b o x.cells.toList S e else none) | _ => none := vstore_sz sz58 b o x
theorem val58 (X : VOuter) (ops : Array Oper) (dd : Option Tmp) (ty : TypeId) (pos : String) (af : Array Edge) (e : Env) (S : VH) (K : VCont) : VStp Tryd.prog X ops ⟨dd, .alloc 58, ty, pos, af, none⟩ e S K = K (.pointer (some ⟨S.next, 0, none⟩)) [] (S.push (.cells true 58 [.int .i64 0, .string .empty, .string .empty, .int .i64 0, .int .i64 0, .string .empty, .string .empty, .int .i64 0, .int .i64 0, .string .empty, .int .i64 0, .int .i64 0, .slice none 0 0])) [] false := VS_alloc zt58 rfl
theorem vfk35 (X : VOuter) (ops : Array Oper) (dd : Option Tmp) (a : Array Operand) (ts : Array TypeId) (ty : TypeId) (pos : String) (af : Array Edge) (e : Env) (S : VH) (K : VCont) : VStp Tryd.prog X ops ⟨dd, .call ⟨.value (.func 35), a, ts⟩, ty, pos, af, none⟩ e S K = Vcallee Tryd.prog X 35 (a.toList.map (aeval e)) S (Hold K) := VS_call 35 a ts fk35
theorem vfk36 (X : VOuter) (ops : Array Oper) (dd : Option Tmp) (a : Array Operand) (ts : Array TypeId) (ty : TypeId) (pos : String) (af : Array Edge) (e : Env) (S : VH) (K : VCont) : VStp Tryd.prog X ops ⟨dd, .call ⟨.value (.func 36), a, ts⟩, ty, pos, af, none⟩ e S K = Vcallee Tryd.prog X 36 (a.toList.map (aeval e)) S (Hold K) := VS_call 36 a ts fk36
theorem vfk37 (X : VOuter) (ops : Array Oper) (dd : Option Tmp) (a : Array Operand) (ts : Array TypeId) (ty : TypeId) (pos : String) (af : Array Edge) (e : Env) (S : VH) (K : VCont) : VStp Tryd.prog X ops ⟨dd, .call ⟨.value (.func 37), a, ts⟩, ty, pos, af, none⟩ e S K = Vcallee Tryd.prog X 37 (a.toList.map (aeval e)) S (Hold K) := VS_call 37 a ts fk37
end Go.Proofs.YtmdpggecelheoaaDoor.Abs
