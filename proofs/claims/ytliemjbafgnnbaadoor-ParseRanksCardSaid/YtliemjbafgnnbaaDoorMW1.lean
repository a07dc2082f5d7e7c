/- A plain evaluator in which a slice is nothing but its elements: what a call computes where nobody can tell one block from another. -/
import Derived.Test.YtliemjbafgnnbaaDoorPA20
import Derived.Test.YtliemjbafgnnbaaDoorPA27
set_option maxHeartbeats 0
set_option linter.unnecessarySimpa false
set_option linter.unusedSimpArgs false
set_option linter.unusedVariables false
namespace Go.Proofs.YtliemjbafgnnbaaDoor.Abs
open Go
abbrev Tok := Nat × Option Nat
def vs (d sz : Nat) (l : List Value) : Value := .func (.via d ⟨[]⟩ sz true) ⟨l⟩ ⟨[]⟩
def vo (k : Tok) (sz off : Nat) (l : List Value) : Value := .func (.via k.1 ⟨[]⟩ sz true) ⟨l⟩ ⟨[.pointer (some ⟨off, 0, k.2⟩)]⟩
def vp (v : Value) : Value := .func (.method "") ⟨[v]⟩ ⟨[]⟩
def vq (k : Tok) (j : Nat) (v : Value) : Value := .func (.via k.1 ⟨[]⟩ j false) ⟨[v]⟩ ⟨[.pointer (some ⟨0, 0, k.2⟩)]⟩
def vr (k : Tok) (v : Value) : Value := .func (.via k.1 ⟨[]⟩ 0 false) ⟨[v]⟩ ⟨[.pointer (some ⟨0, 0, k.2⟩), .nilFunc]⟩
def encE (e : Value × Value) : Value := .tuple ⟨[e.1, e.2]⟩
def decE : Value → Value × Value
 | .tuple ⟨[k, v]⟩ => (k, v)
 | _ => (undef, undef)
theorem zar1 (e : Value × Value) : decE (encE e) = e := _root_.id rfl
def vm (es : List (Value × Value)) : Value := .func (.method "") ⟨[.agg ⟨es.map encE⟩]⟩ ⟨[.nilFunc]⟩
def stale : Value := .chan (some 1)
inductive View where
 | ro (d sz : Nat) (l : List Value)
 | own (k : Tok) (sz off : Nat) (l : List Value)
 | at (v : Value)
 | atOwn (k : Tok) (j : Nat) (v : Value)
 | inOwn (k : Tok) (v : Value)
 | mp (l : List Value)
 | other
def view : Value → View
 | .func (.via d _ sz true) ⟨l⟩ ⟨[]⟩ => .ro d sz l
 | .func (.via k _ sz true) ⟨l⟩ ⟨[.pointer (some a)]⟩ => .own (k, a.spot) sz a.block l
 | .func (.method _) ⟨[v]⟩ ⟨[]⟩ => .at v
 | .func (.method _) ⟨[.agg ⟨l⟩]⟩ ⟨[.nilFunc]⟩ => .mp l
 | .func (.via k _ j false) ⟨[v]⟩ ⟨[.pointer (some a)]⟩ => .atOwn (k, a.spot) j v
 | .func (.via k _ _ false) ⟨[v]⟩ ⟨[.pointer (some a), .nilFunc]⟩ => .inOwn (k, a.spot) v
 | _ => .other
theorem zabc (d sz : Nat) (l : List Value) : view (vs d sz l) = .ro d sz l := _root_.id rfl
theorem zabs (k : Tok) (sz off : Nat) (l : List Value) : view (vo k sz off l) = .own k sz off l := _root_.id rfl
theorem zac8 (v : Value) : view (vp v) = .at v := _root_.id rfl
theorem zacs (k : Tok) (j : Nat) (v : Value) : view (vq k j v) = .atOwn k j v := _root_.id rfl
theorem zact (k : Tok) (v : Value) : view (vr k v) = .inOwn k v := _root_.id rfl
theorem zac7 (es : List (Value × Value)) : view (vm es) = .mp (es.map encE) := _root_.id rfl
theorem za03 (k : IntKind) (n : Int) : view (.int k n) = .other := _root_.id rfl
theorem zaqy (s : ByteArray) : view (.string s) = .other := _root_.id rfl
theorem zajg (a : Option Addr) : view (.pointer a) = .other := _root_.id rfl
theorem za02 (x : Array Value) : view (.agg x) = .other := _root_.id rfl
abbrev Turn := View → Value → Value
mutual
def mapOwn (g : Turn) : Value → Value
 | .func f x y => match f with
  | .func i => .func (.func i) (mapOwnA g x) (mapOwnA g y)
  | f => g (view (.func f x y)) (.func f x y)
 | .iface t v => .iface t (mapOwn g v)
 | .agg x => .agg (mapOwnA g x)
 | .tuple x => .tuple (mapOwnA g x)
 | v => v
termination_by structural x => x
def mapOwnA (g : Turn) : Array Value → Array Value
 | ⟨x⟩ => ⟨mapOwnL g x⟩
termination_by structural x => x
def mapOwnL (g : Turn) : List Value → List Value
 | [] => []
 | a :: x => mapOwn g a :: mapOwnL g x
termination_by structural x => x
end
inductive Fate where
 | keep
 | drop
 | thaw (d : Nat)
 | to (k : Tok)
def fate (f : Tok → Fate) : Turn := fun w v => match w with
 | .own k sz off l => (match f k with | .keep => v | .drop => stale | .thaw d => vs d sz l | .to k' => vo k' sz off l)
 | .atOwn k j x => (match f k with | .keep => v | .drop => stale | .thaw _ => vp x | .to k' => vq k' j x)
 | .inOwn k x => (match f k with | .keep => v | .drop => stale | .thaw _ => vp x | .to k' => vr k' x)
 | _ => v
def scrub (k : Tok) : Turn := fate fun k' => if k' = k then .drop else .keep
def thaw (ks : List Tok) : Turn := fate fun k => if k ∈ ks then .thaw 0 else .keep
def thawAll : Turn := fate fun _ => .thaw 0
def lend (all : Bool) : Turn := fate fun k => if all || k.2.isNone then .thaw 1 else .keep
def dropBoxes (is : List Nat) : Turn := fate fun k => if k.2.isSome && is.contains k.1 then .drop else .keep
def upd (k : Tok) (j : Nat) (x : Value) : Turn := fun w v => match w with
 | .own k' sz off l => if k' = k then (if sz = x.cells.size then vo k sz off (if off ≤ j then l.set (j - off) x else l) else stale) else v
 | .atOwn k' .. => if k' = k then stale else v
 | .inOwn k' _ => if k' = k then stale else v
 | _ => v
mutual
def toks : Value → List Tok
 | .func f x y => match f with
  | .func i => toksA x ++ toksA y
  | f => match view (.func f x y) with
   | .own k .. => [k]
   | .atOwn k .. => [k]
   | .inOwn k _ => [k]
   | _ => []
 | .iface t v => toks v
 | .agg x => toksA x
 | .tuple x => toksA x
 | _ => []
termination_by structural x => x
def toksA : Array Value → List Tok
 | ⟨x⟩ => toksL x
termination_by structural x => x
def toksL : List Value → List Tok
 | [] => []
 | a :: x => toks a ++ toksL x
termination_by structural x => x
end
mutual
def okv (n : Nat) (st : Bool) : Value → Bool
 | .func f x y => match f with
  | .func i => okvA n st x && okvA n st y
  | f => match view (.func f x y) with
   | .ro d _ _ => !st || d == 0
   | .mp _ => true
   | _ => false
 | .iface t v => okv n st v
 | .agg x => okvA n st x
 | .tuple x => okvA n st x
 | .pointer none => true
 | .pointer (some a) => decide (a.block < n)
 | .map none => true
 | .map (some i) => decide (i < n)
 | .slice none 0 0 => true
 | .slice _ _ _ => false
 | .chan _ => false
 | _ => true
termination_by structural x => x
def okvA (n : Nat) (st : Bool) : Array Value → Bool
 | ⟨x⟩ => okvL n st x
termination_by structural x => x
def okvL (n : Nat) (st : Bool) : List Value → Bool
 | [] => true
 | a :: x => okv n st a && okvL n st x
termination_by structural x => x
end
mutual
def lowv (n : Nat) : Value → Bool
 | .func f x y => match f with
  | .func _ => lowvA n x && lowvA n y
  | _ => true
 | .iface _ v => lowv n v
 | .agg x => lowvA n x
 | .tuple x => lowvA n x
 | .pointer (some a) => decide (a.block < n)
 | _ => true
termination_by structural x => x
def lowvA (n : Nat) : Array Value → Bool
 | ⟨x⟩ => lowvL n x
termination_by structural x => x
def lowvL (n : Nat) : List Value → Bool
 | [] => true
 | a :: x => lowv n a && lowvL n x
termination_by structural x => x
end
structure VH where
 base : List Blk
 loc : List Blk
 w : List Nat
def VH.next (S : VH) : Nat := S.base.length + S.loc.length
def VH.get (S : VH) (i : Nat) : Blk := if i < S.base.length then S.base.getD i .dead else S.loc.getD (i - S.base.length) .dead
def addW (i : Nat) (w : List Nat) : List Nat := if w.contains i then w else i :: w
def VH.put (S : VH) (i : Nat) (b : Blk) : VH := if i < S.base.length then ⟨S.base.set i b, S.loc, addW i S.w⟩ else ⟨S.base, S.loc.set (i - S.base.length) b, S.w⟩
def VH.push (S : VH) (b : Blk) : VH := { S with loc := S.loc ++ [b] }
def mapB (g : Value → Value) : Blk → Blk
 | .cells o e c => .cells o e (c.map g)
 | b => b
def VH.turn (S : VH) (g : Turn) : List Nat → VH
 | [] => S
 | i :: r => VH.turn (S.put i (mapB (mapOwn g) (S.get i))) g r
section
variable (P : Program)
def vcells (S : VH) (a : Addr) (n : Nat) : Option (List Value) :=
 if n = 0 then some [] else
 match S.get a.block with
 | .cells _ _ c => if a.off + n ≤ c.length ∧ a.spot = none then some ((c.drop a.off).take n) else none
 | _ => none
def vcell (S : VH) (a : Addr) : Option Value :=
 match S.get a.block with
 | .cells _ _ c => if a.spot = none then c[a.off]? else none
 | _ => none
def vget (t : TypeId) (v : Value) : Option Value :=
 match P.underlying t with
 | none => none
 | some _ => if isAggT P t then (match v with | .agg cs => if szT P t = some cs.size then some v else none | _ => none) else (match v with | .agg _ => none | .chan _ => none | .tuple _ => none | v => some v)
def vload (t : TypeId) (v : Value) (S : VH) : Option Value :=
 match view v with
 | .at x => vget P t x
 | .atOwn _ _ x => vget P t x
 | .inOwn _ x => vget P t x
 | _ => match v with
  | .pointer (some a) => match P.underlying t with
   | none => none
   | some _ => if isAggT P t then (szT P t).bind fun n => (vcells S a n).map fun c => .agg c.toArray else vcell S a
  | _ => none
def isAggV : Value → Bool
 | .agg _ => true
 | _ => false
def vpart (t : TypeId) (v : Value) (i : Nat) : Option Value := match v with
 | .agg cs => (place P t i).bind fun p => (ftype P t i).bind fun u => if p.2 ≠ 0 then (apart P u cs p.1).bind fun y => if isAggT P u || !isAggV y then some y else none else none
 | _ => none
def vfield (t : TypeId) (v : Value) (i : Nat) : Option Value :=
 match view v with
 | .at x => (vpart P t x i).map vp
 | .atOwn k _ x => (vpart P t x i).map (vr k)
 | .inOwn k x => (vpart P t x i).map (vr k)
 | _ => match v with
  | .pointer (some a) => (place P t i).bind fun p => if p.2 ≠ 0 ∧ a.spot = none then some (.pointer (some ⟨a.block, a.off + p.1, none⟩)) else none
  | _ => none
def vindexAddr (t : TypeId) (v i : Value) : Option Value :=
 match i with
 | .int _ j => match view v with
  | .ro d sz l => (elemT P t).bind fun e => if szT P e = some sz ∧ 0 ≤ j then (l[j.toNat]?).map vp else none
  | .own k sz off l => (elemT P t).bind fun e => if szT P e = some sz ∧ 0 ≤ j then (l[j.toNat]?).map (vq k (off + j.toNat)) else none
  | _ => match v with
   | .pointer (some a) => aindexAddr P t (.pointer (some a)) (.int .i64 j)
   | _ => none
 | _ => none
def vcut (t : TypeId) (v : Value) (lo hi mx : Option Value) : Option Value :=
 match view v with
 | .ro d sz l => (elemT P t).bind fun e => (abound hi l.length).bind fun h => (abound lo 0).bind fun b =>
     if szT P e = some sz ∧ mx = none ∧ 0 ≤ b ∧ b ≤ h ∧ h ≤ l.length then some (vs d sz ((l.drop b.toNat).take (h - b).toNat)) else none
 | .own k sz off l => (elemT P t).bind fun e => (abound hi l.length).bind fun h => (abound lo 0).bind fun b =>
     if szT P e = some sz ∧ mx = none ∧ 0 ≤ b ∧ b ≤ h ∧ h ≤ l.length then some (vo k sz (off + b.toNat) ((l.drop b.toNat).take (h - b).toNat)) else none
 | _ => match v with
  | .slice none 0 0 => (elemT P t).bind fun e => (abound hi 0).bind fun h => (abound lo 0).bind fun b =>
      if (szT P e).isSome = true ∧ mx = none ∧ 0 ≤ b ∧ b ≤ h ∧ h ≤ 0 then some (.slice none 0 0) else none
  | .string s => match P.underlying t with
   | some .string => (abound hi s.size).bind fun h => (abound lo 0).bind fun b =>
    if mx = none ∧ 0 ≤ b ∧ b ≤ h ∧ h ≤ s.size then some (.string (s.extract b.toNat h.toNat)) else none
   | _ => none
  | _ => none
def vlen (t : TypeId) (v : Value) : Option Value :=
 match view v with
 | .ro _ _ l => if (elemT P t).isSome then some (.int .i64 l.length) else none
 | .own _ _ _ l => if (elemT P t).isSome then some (.int .i64 l.length) else none
 | _ => match v with
  | .slice none 0 0 => if (elemT P t).isSome then some (.int .i64 0) else none
  | .string s => (match P.underlying t with | some .string => some (.int .i64 s.size) | _ => none)
  | _ => none
def isNilSlice : Value → Bool
 | .slice none 0 0 => true
 | _ => false
def isSl : Value → Bool := fun v => match view v with
 | .ro .. => true
 | .own .. => true
 | _ => false
def isPtr (v : Value) : Bool := match view v with
 | .at _ => true
 | .atOwn .. => true
 | .inOwn .. => true
 | _ => match v with
  | .pointer (some _) => true
  | _ => false
def vbin (op : BinOp) (t : TypeId) (x y : Operand) (a b : Value) : Option Value :=
 if isSl a && isNilSlice b then (match op, elemT P t with
  | .eql, some _ => (match view a with | .ro _ _ [] => none | .own _ _ _ [] => none | _ => some (.bool false))
  | .neq, some _ => (match view a with | .ro _ _ [] => none | .own _ _ _ [] => none | _ => some (.bool true))
  | _, _ => none)
 else if flat 8 a && flat 8 b then abin P op t x y a b
 else match op, b, P.underlying t with
  | .eql, .pointer none, some (.pointer _) => if isPtr a then some (.bool false) else none
  | .neq, .pointer none, some (.pointer _) => if isPtr a then some (.bool true) else none
  | .eql, .nilIface, some (.interface _) => (match a with | .iface _ _ => some (.bool false) | _ => none)
  | .neq, .nilIface, some (.interface _) => (match a with | .iface _ _ => some (.bool true) | _ => none)
  | _, _, _ => none
def vconv (src dst : TypeId) (v : Value) : Option Value :=
 match view v with
 | .ro _ sz l => (match elemT P src, P.underlying dst with
  | some e, some .string => (match P.underlying e with | some (.int .u8) => if sz = 1 then (bytesOfCells l).map fun b => .string ⟨b.toArray⟩ else none | _ => none)
  | _, _ => none)
 | .own _ sz _ l => (match elemT P src, P.underlying dst with
  | some e, some .string => (match P.underlying e with | some (.int .u8) => if sz = 1 then (bytesOfCells l).map fun b => .string ⟨b.toArray⟩ else none | _ => none)
  | _, _ => none)
 | _ => match v with
  | .slice none 0 0 => aconv P src dst v ⟨0, .tip⟩
  | v => if flat 8 v then aconv P src dst v ⟨0, .tip⟩ else none
def vnil (v : Value) : Option Value :=
 match view v with
 | .at _ => some v
 | .atOwn .. => some v
 | .inOwn .. => some v
 | _ => match v with
  | .pointer (some a) => some v
  | .func (.func _) _ _ => some v
  | _ => none
def ventries (v : Value) : Option (List (Value × Value)) := match view v with
 | .mp l => some (l.map decE)
 | _ => (match v with | .map none => some [] | _ => none)
def vlop (ρ : Operand → Value) (S : VH) : Op → Option Value
 | .load t a => vload P t (ρ a) S
 | .fieldAddr t x i => vfield P t (ρ x) i
 | .indexAddr t x i => vindexAddr P t (ρ x) (ρ i)
 | .slice t x lo hi mx => vcut P t (ρ x) (lo.map ρ) (hi.map ρ) (mx.map ρ)
 | .convert s t x => vconv P s t (ρ x)
 | .nilCheck x => vnil (ρ x)
 | .lookup t x i ok => (ventries (ρ x)).bind fun es => mlook P t (ρ i) ok es
 | .binOp op t x y _ => vbin P op t x y (ρ x) (ρ y)
 | .call c => match c.callee, c.argTypes.toList, c.args.toList with
  | .builtin .len, [t], [x] => vlen P t (ρ x)
  | .builtin .min, _, [x, y] => amin (ρ x) (ρ y)
  | .builtin .max, _, [x, y] => amax (ρ x) (ρ y)
  | _, _, _ => none
 | op => lop P ρ ⟨0, .tip⟩ op
structure VRes where
 v : Value
 g : List Turn
 S : VH
 ws : List Nat
 kf : Bool
inductive VStep where
 | val (r : VRes)
 | enter (f : FuncId) (args : List Value)
def emap : List Turn → Env → Env
 | [], e => e
 | g :: r, e => emap r (e.map (mapOwn g))
def boxesOf (ks : List Tok) : List Nat := ks.filterMap fun k => if k.2.isSome then some k.1 else none
def velems (sz : Nat) (x : Value) : Option (List Value) :=
 match view x with
 | .ro _ s l => if s = sz then some l else none
 | .own _ s _ l => if s = sz then some l else none
 | _ => match x with
  | .slice none 0 0 => some []
  | .string s => if sz = 1 then some (s.data.toList.map fun b => .int .u8 b.toNat) else none
  | _ => none
def ownBox (k : Tok) : List Nat := if k.2.isSome then [k.1] else []
def vgrow (d : Nat) (sz bytes : Nat) (s : Value) (new : List Value) (S : VH) : Option VRes :=
 if new = [] then (if isSl s || isNilSlice s then some ⟨s, [], S, [], false⟩ else none) else
 match view s with
 | .own k sz' off l => if sz' = sz ∧ (l.length + new.length) * bytes ≤ 140737488355328 ∧ l.length + new.length ≤ 9223372036854775807 then some ⟨vo k sz 0 (l ++ new), [scrub k], S.turn (scrub k) (ownBox k), ownBox k, k.2.isNone⟩ else none
 | _ => match s with
  | .slice none 0 0 => if new.length * bytes ≤ 140737488355328 ∧ new.length ≤ 9223372036854775807 then some ⟨vo (d, none) sz 0 new, [thaw [(d, none)]], S, [], false⟩ else none
  | _ => none
def vappend (d : Nat) (st xt : TypeId) (s x : Value) (S : VH) : Option VRes :=
 (elemT P st).bind fun e => (infoT P e).bind fun i => if takesT P xt ∧ 0 < i.1 then (velems i.1 x).bind fun new => vgrow d i.1 i.2 s new S else none
def ownTok (c : Value) : Option Tok := match view c with
 | .own k .. => some k
 | _ => none
def retok (k : Tok) (c : Value) : Value := match view c with
 | .own _ sz off l => vo k sz off l
 | _ => c
def settle (i : Nat) : Nat → List Value → List Value
 | _, [] => []
 | o, c :: cs => retok (i, some o) c :: settle i (o + 1) cs
def fput (i off : Nat) (cs : List Value) : Tok → Fate := fun k => match k.2 with
 | none => (match cs.findIdx? (fun c => decide (ownTok c = some k)) with | some j => .to (i, some (off + j)) | none => .keep)
 | some o => if k.1 = i ∧ off ≤ o ∧ o < off + cs.length then (if (cs[o - off]?).bind ownTok = some k then .keep else .thaw 0) else .keep
def cellOk (n : Nat) (outer : Bool) (k : Tok) (c : Value) : Bool := match view c with
 | .own k' .. => k'.2.isNone || decide (k' = k)
 | _ => toks c == [] && !isTup c && okv n outer c
def cellsOk (n : Nat) (outer : Bool) (i : Nat) : Nat → List Value → Bool
 | _, [] => true
 | o, c :: cs => cellOk n outer (i, some o) c && cellsOk n outer i (o + 1) cs && (match ownTok c with | some k => !(toksL cs).contains k | none => true)
def foreign (i : Nat) : Nat → List Value → List Tok
 | _, [] => []
 | o, c :: cs => (match ownTok c with | some k => if k.2.isNone || decide (k = (i, some o)) then [] else [k] | none => []) ++ foreign i (o + 1) cs
def VH.thaw (S : VH) (ks : List Tok) : VH := S.turn (Abs.thaw ks) (boxesOf ks)
def cellsIn : Blk → List Value
 | .cells _ _ c => c
 | _ => []
def vput (i off : Nat) (cs : List Value) (S : VH) (e : TypeId) : VRes :=
 ⟨undef, if toksL cs = [] then [] else [fate (fput i off cs)], S.put i (.cells true e (setAll (cellsIn (S.get i)) off (settle i off cs))), [i], false⟩
def vlay (i off : Nat) (cs : List Value) (S : VH) (e : TypeId) : Option VRes :=
 let ks := foreign i off cs
 let S1 := if ks = [] then S else S.thaw ks
 let cs1 := if ks = [] then cs else cs.map (mapOwn (Abs.thaw ks))
 if cellsOk (if i < S.base.length then S.base.length else S.next) (decide (i < S.base.length)) i off cs1 = true then
  let r := vput i off cs1 S1 e
  some { r with g := (if ks = [] then [] else [Abs.thaw ks]) ++ r.g }
 else none
def vstore (t : TypeId) (a x : Value) (S : VH) : Option VRes :=
 match view a with
 | .atOwn k j y => if szT P t = some x.cells.size ∧ y.cells.size = x.cells.size ∧ isTup x = false ∧ okv 0 true (mapOwn thawAll x) = true ∧ k ∉ toks x then
     some ⟨undef, [Abs.thaw (toks x), upd k j (mapOwn thawAll x)], (S.thaw (toks x)).turn (upd k j (mapOwn thawAll x)) (ownBox k), ownBox k, k.2.isNone⟩ else none
 | _ => match a with
  | .pointer (some a) => match S.get a.block with
   | .cells true e c => if szT P t = some x.cells.size ∧ isTup x = false ∧ a.off + x.cells.size ≤ c.length ∧ a.spot = none then vlay a.block a.off x.cells.toList S e else none
   | _ => none
  | _ => none
def vfill : List Value → List (Nat × Value) → List Value
 | l, [] => l
 | l, (i, v) :: r => vfill (l.set i v) r
def vbuild (t : TypeId) (len : Nat) (parts : List (Nat × Value)) : Option (Nat × List Value) :=
 (elemT P t).bind fun e => (infoT P e).bind fun i => (zeroT P e).bind fun z =>
  if len * i.1 ≤ 16777216 ∧ 0 < i.1 ∧ flat 8 z ∧ okv 0 true z = true ∧ z.cells.size = i.1 ∧ isTup z = false ∧ parts.all (fun p => decide (p.1 < len) && !isTup p.2 && p.2.cells.size == i.1 && okv 0 true (mapOwn thawAll p.2)) then
   some (i.1, vfill (List.replicate len z) (parts.map fun p => (p.1, mapOwn thawAll p.2)))
  else none
def vboxed (t : TypeId) (ks : List Tok) (cs1 : List Value) (S S1 : VH) : Option VRes :=
 if cellsOk S.next false S.next 0 cs1 = true then
  some ⟨.pointer (some ⟨S.next, 0, none⟩), (if ks = [] then [] else [Abs.thaw ks]) ++ (if toksL cs1 = [] then [] else [fate (fput S.next 0 cs1)]), S1.push (.cells true t (settle S.next 0 cs1)), [], false⟩
 else none
def vbox (t : TypeId) (x : Value) (S : VH) : Option VRes :=
 vboxed t (foreign S.next 0 x.cells.toList) (if foreign S.next 0 x.cells.toList = [] then x.cells.toList else x.cells.toList.map (mapOwn (Abs.thaw (foreign S.next 0 x.cells.toList)))) S (if foreign S.next 0 x.cells.toList = [] then S else S.thaw (foreign S.next 0 x.cells.toList))
def vhop (d : Nat) (ρ : Operand → Value) (S : VH) : Op → Option VStep
 | .alloc t => (zeroT P t).bind fun z => if flat 8 z then some (.val ⟨.pointer (some ⟨S.next, 0, none⟩), [], S.push (.cells true t z.cells.toList), [], false⟩) else none
 | .box t x => if isTup (ρ x) then none else (vbox t (ρ x) S).map .val
 | .buildSlice t len parts => (vbuild P t len (parts.toList.map fun p => (p.1, ρ p.2))).map fun r =>
     let ks := toksL (parts.toList.map fun p => ρ p.2)
     .val ⟨vo (d, none) r.1 0 r.2, [thaw ((d, none) :: ks)], S.thaw ((d, none) :: ks), [], false⟩
 | .store t a x => (vstore P t (ρ a) (ρ x) S).map .val
 | .convert src dst x => match P.underlying src, elemT P dst, ρ x with
  | some .string, some e, .string s => match P.underlying e with
   | some (.int .u8) => if szT P e = some 1 then some (.val ⟨vo (d, none) 1 0 (s.data.toList.map fun b => .int .u8 b.toNat), [thaw [(d, none)]], S, [], false⟩) else none
   | _ => none
  | _, _, _ => none
 | .call c => match c.callee with
  | .builtin .append => match c.argTypes.toList, c.args.toList with
   | [st, xt], [s, x] => (vappend P d st xt (ρ s) (ρ x) S).map .val
   | _, _ => none
  | .value f => match ρ f with
   | .func (.func g) first captured => if funcOk P g then some (.enter g (first.toList ++ c.args.toList.map ρ ++ captured.toList)) else none
   | _ => none
  | _ => none
 | _ => none
end
abbrev VCall := FuncId → List Value → List Blk → Option (Value × List (Nat × Blk))
def VH.puts (S : VH) : List (Nat × Blk) → VH
 | [] => S
 | (i, b) :: r => VH.puts (S.put i b) r
section
variable (P : Program) (K : VCall)
def lowW (n : Nat) (p : Nat × Blk) : Bool := decide (n ≤ p.1) || match p.2 with | .cells _ _ c => c.all (lowv n) | _ => true
def vcall (f : FuncId) (args : List Value) (S : VH) : Option VRes :=
 if okvL 0 false (mapOwnL (lend true) args) = true then (K f (mapOwnL (lend true) args) []).bind fun r =>
  if okv 0 (!(toksL args).isEmpty) r.1 = true ∧ r.2 = [] then some ⟨r.1, [], S, [], false⟩ else none
 else (K f (mapOwnL (lend false) args) (S.base ++ S.loc)).bind fun r =>
  if ((toksL args).all (fun k => k.2.isSome) = true ∨ (okv S.next true r.1 = true ∧ r.2 = [])) ∧ r.2.all (lowW S.base.length) = true then some ⟨r.1, if r.2 = [] then [] else [dropBoxes (r.2.map (·.1))], S.puts r.2, r.2.map (·.1), false⟩ else none
def dname (o : Oper) : Nat := o.dst.getD 0
def vstepOp (o : Oper) (e : Env) (S : VH) : Option VRes :=
 if light P o.op then (vlop P (aeval e) S o.op).map fun v => ⟨v, [], S, [], false⟩
 else (vhop P (dname o) (aeval e) S o.op).bind fun
  | .val r => some r
  | .enter f args => vcall K f args S
structure VStepped where
 e : Env
 S : VH
 ws : List Nat
 kf : Bool
def vstepG (ops : Array Oper) (o : Oper) (e : Env) (S : VH) : Option VStepped :=
 (awanted ops o e).bind fun t => if t then (vstepOp P K o e S).map fun r => ⟨eput (emap r.g e) o.dst r.v, r.S, r.ws, r.kf⟩ else some ⟨eput e o.dst NR, S, [], false⟩
def vrunL (ops : Array Oper) : List Oper → Env → VH → Option (Env × VH)
 | [], e, S => some (e, S)
 | o :: rest, e, S => (vstepG P K ops o e S).bind fun r => vrunL ops rest r.e r.S
inductive Dep where
 | ro
 | box (i : Nat)
 | own (k : Tok)
structure VObl where
 ks : List Nat
 pos : Nat
 dep : Dep
def depOf (a : Value) : Option Dep := match view a with
 | .at _ => some .ro
 | .atOwn k _ _ => some (.own k)
 | .inOwn k _ => some (.own k)
 | _ => match a with
  | .pointer (some a) => some (.box a.block)
  | _ => none
def depStep (d : Dep) (s : List Nat × Bool) : Bool := match d with
 | .ro => true
 | .box i => !s.1.contains i
 | .own _ => s.1.isEmpty && !s.2
def vobl (o : Oper) (ks : List Nat) (at' : Nat) (sh : Bool) (e : Env) : Option (List VObl) := match o.op with
 | .load _ a => (depOf (aeval e a)).bind fun d => if sh || ks.all (fun k => decide (at' ≤ k)) then some [⟨ks, at', d⟩] else none
 | .convert _ _ x => if flat 8 (aeval e x) then some [⟨ks, at', .ro⟩] else none
 | .call _ => some [⟨ks, at', .ro⟩]
 | _ => none
def vspan (Hs : List (List Nat × Bool)) (b : VObl) : Bool := b.ks.all fun k => decide (k ≤ Hs.length) &&
 (List.range Hs.length).all fun j => !(decide (min k b.pos ≤ j) && decide (j < max k b.pos)) || (match Hs[j]? with | some p => depStep b.dep p | none => false)
def gone : Value := .chan (some 2)
def vshade (o : Oper) (es : Env) (S0 : VH) (Hs : List (List Nat × Bool)) : Value :=
 if light P o.op = true ∧ o.guard = none then
  match vlop P (aeval es) S0 o.op with
  | some v => (match o.op with
   | .load _ a => (match depOf (aeval es a) with | some d => if Hs.all (depStep d) then v else gone | none => gone)
   | .convert .. => gone
   | .lookup .. => gone
   | _ => v)
  | none => gone
 else gone
def isGone : Value → Bool
 | .chan _ => true
 | _ => false
def vrunE (ops : Array Oper) (sd : Bool) (S0 : VH) : List (List Nat) → List Oper → Env → Env → VH → List (List Nat × Bool) → List VObl → Option (Env × VH)
 | _, [], _, e, S, Hs, ob => if ob.all (vspan Hs.reverse) then some (e, S) else none
 | t :: T, o :: rest, es, e, S, Hs, ob => (awanted ops o e).bind fun w =>
     (if t = [] then some [] else if w = false then some [⟨t, Hs.length, .ro⟩] else vobl o t Hs.length (sd && !isGone (vshade P { o with guard := none } es S0 Hs)) e).bind fun nb =>
     (vstepG P K ops o e S).bind fun r => vrunE ops sd S0 T rest (if sd then eput es o.dst (vshade P o es S0 Hs) else es) r.e r.S (if light P o.op then Hs else (r.ws, r.kf) :: Hs) (nb ++ ob)
 | [], _ :: _, _, _, _, _, _ => none
def early (ops : Array Oper) (T : List (List Nat)) : Bool := (List.range ops.size).any fun j => (T.getD j []).any fun k => decide (k < hcount P ops j)
def vrunR (ops : Array Oper) (draw : Bool) (e : Env) (S : VH) : Option (Env × VH) :=
 if draw then
  if drawOk P ops then vrunE P K ops (early P ops (othersAll P ops)) S (othersAll P ops) ops.toList e e S [] []
  else if drawOk2 P ops then vrunE P K ops (early P ops (othersAll2 P ops)) S (othersAll2 P ops) ops.toList e e S [] []
  else none
 else vrunL P K ops ops.toList e S
def viter (g : Env → VH → Option (Ex × Env × VH)) : Nat → Env → VH → Option (Ex × Env × VH)
 | 0, _, _ => none
 | n + 1, e, S => (g e S).bind fun r => match r.1 with
  | .normal => viter g n r.2.1 r.2.2
  | _ => some r
def vrunC (n : Nat) : Code → Env → VH → Option (Ex × Env × VH)
 | .skip, e, S => some (.normal, e, S)
 | .region _ ops draw, e, S => (vrunR P K ops draw e S).map fun r => (.normal, r.1, r.2)
 | .seq a b, e, S => (vrunC n a e S).bind fun r => match r.1 with
  | .normal => vrunC n b r.2.1 r.2.2
  | _ => some r
 | .cond c a b, e, S => match aeval e c with
  | .bool t => if t then vrunC n a e S else vrunC n b e S
  | _ => none
 | .block id c, e, S => (vrunC n c e S).map fun r => match r.1 with
  | .exit j => if j = id then (.normal, r.2) else r
  | _ => r
 | .loop c, e, S => viter (vrunC n c) n e S
 | .exit id, e, S => some (.exit id, e, S)
 | .ret, e, S => some (.ret, e, S)
 | _, _, _ => none
end
def vresult (P : Program) (e : Env) (S : VH) : ResultVar → Option Value
 | .tmp t => some (eget e t)
 | .cell a t => vload P t (eget e a) S
def vresults (P : Program) (e : Env) (S : VH) : List ResultVar → Option (List Value)
 | [] => some []
 | r :: rs => (vresult P e S r).bind fun v => (vresults P e S rs).map fun vs => v :: vs
def VH.writes (S : VH) : List (Nat × Blk) := S.w.map fun i => (i, S.base.getD i .dead)
def vtell (v : Value) (S : VH) : Option (Value × List (Nat × Blk)) :=
 if okv S.base.length false (mapOwn thawAll v) = true then some (mapOwn thawAll v, (S.thaw (toks v)).writes) else none
def vfinish (P : Program) (fn : Func) (r : Ex × Env × VH) : Option (Value × List (Nat × Blk)) :=
 match r.1 with
 | .exit _ => none
 | _ => (vresults P r.2.1 r.2.2 fn.results.toList).bind fun vs => vtell (ret1 vs) r.2.2
abbrev VOuter := FuncId → Option (List Value → List Blk → Option (Value × List (Nat × Blk)))
def vrun (P : Program) (X : VOuter) : Nat → VCall
 | 0, _, _, _ => none
 | n + 1, f, args, B => match X f with
  | some g => g args B
  | none => match P.funcs[f]? with
   | none => none
   | some fn => match fn.body with
    | none => none
    | some c => if dstOk fn.ntmps c ∧ args.length ≤ fn.ntmps then (vrunC P (vrun P X n) n c args ⟨B, [], []⟩).bind (vfinish P fn) else none
end Go.Proofs.YtliemjbafgnnbaaDoor.Abs
/- What it means that the plain heap is as values with their slices say. -/
namespace Go.Proofs.YtliemjbafgnnbaaDoor.Abs
open Go
structure Rl where
 φ : List Nat
 ρ : Tok → Option Nat
 M : Nat → Nat → Prop
 H : Hp
def Rl.prot (R : Rl) (b : Nat) : Prop := b < R.H.next ∧ b ∉ R.φ ∧ ∀ k, R.ρ k ≠ some b
def cellsL (l : List Value) : List Value := l.flatMap fun v => v.cells.toList
def isScal : Value → Bool
 | .bool _ => true
 | .int .. => true
 | .float .. => true
 | .complex .. => true
 | .string _ => true
 | .nilFunc => true
 | .nilIface => true
 | .pointer none => true
 | .map none => true
 | .slice none 0 0 => true
 | _ => false
def isTok (v : Value) : Bool := match view v with
 | .own .. => true
 | .atOwn .. => true
 | .inOwn .. => true
 | _ => false
inductive Rd (R : Rl) : Value → Value → Prop
 | stale (i : Nat) (u : Value) : i ≠ 0 → Rd R (.chan (some i)) u
 | nr : Rd R NR NR
 | undef (u : Value) : Rd R undef u
 | scal (v : Value) : isScal v = true → Rd R v v
 | ptr (i off b : Nat) : R.φ[i]? = some b → Rd R (.pointer (some ⟨i, off, none⟩)) (.pointer (some ⟨b, off, none⟩))
 | clo (f : FuncId) (x y x' y' : List Value) : x.length = x'.length → y.length = y'.length → (∀ i : Nat, Rd R (x.getD i Go.undef) (x'.getD i Go.undef)) → (∀ i : Nat, Rd R (y.getD i Go.undef) (y'.getD i Go.undef)) → Rd R (.func (.func f) ⟨x⟩ ⟨y⟩) (.func (.func f) ⟨x'⟩ ⟨y'⟩)
 | iface (t : TypeId) (v u : Value) : Rd R v u → Rd R (.iface t v) (.iface t u)
 | agg (x y : List Value) : x.length = y.length → (∀ i : Nat, Rd R (x.getD i Go.undef) (y.getD i Go.undef)) → Rd R (.agg ⟨x⟩) (.agg ⟨y⟩)
 | tuple (x y : List Value) : x.length = y.length → (∀ i : Nat, Rd R (x.getD i Go.undef) (y.getD i Go.undef)) → Rd R (.tuple ⟨x⟩) (.tuple ⟨y⟩)
 | ro (d sz : Nat) (l : List Value) (b off : Nat) (o : Bool) (el : TypeId) (c : List Value) : 0 < sz → R.prot b → R.M d b → R.H.get b = .cells o el c → off + l.length * sz ≤ c.length → (∀ x ∈ l, x.cells.size = sz) → okvL 0 true l = true →
     (∀ i : Nat, Rd R ((cellsL l).getD i Go.undef) (((c.drop off).take (l.length * sz)).getD i Go.undef)) → Rd R (vs d sz l) (.slice (some ⟨b, off, none⟩) l.length sz)
 | roE (d sz b off : Nat) : 0 < sz → Rd R (vs d sz []) (.slice (some ⟨b, off, none⟩) 0 sz)
 | own (k : Tok) (sz j : Nat) (l : List Value) (b : Nat) (el : TypeId) (c : List Value) : 0 < sz → R.ρ k = some b → R.H.get b = .cells true el c → j * sz + l.length * sz ≤ c.length → (∀ x ∈ l, x.cells.size = sz) → okvL 0 true l = true →
     (∀ i : Nat, Rd R ((cellsL l).getD i Go.undef) (((c.drop (j * sz)).take (l.length * sz)).getD i Go.undef)) → Rd R (vo k sz j l) (.slice (some ⟨b, j * sz, none⟩) l.length sz)
 | at (v : Value) (d b off : Nat) (o : Bool) (el : TypeId) (c : List Value) : R.prot b → R.M d b → R.H.get b = .cells o el c → off + v.cells.size ≤ c.length → okv 0 true v = true →
     (∀ i : Nat, Rd R (v.cells.toList.getD i Go.undef) (((c.drop off).take v.cells.size).getD i Go.undef)) → Rd R (vp v) (.pointer (some ⟨b, off, none⟩))
 | atOwn (k : Tok) (sz j : Nat) (v : Value) (b : Nat) (el : TypeId) (c : List Value) : 0 < sz → R.ρ k = some b → R.H.get b = .cells true el c → v.cells.size = sz → j * sz + sz ≤ c.length → okv 0 true v = true →
     (∀ i : Nat, Rd R (v.cells.toList.getD i Go.undef) (((c.drop (j * sz)).take v.cells.size).getD i Go.undef)) → Rd R (vq k j v) (.pointer (some ⟨b, j * sz, none⟩))
 | inOwn (k : Tok) (v : Value) (b off : Nat) (el : TypeId) (c : List Value) : R.ρ k = some b → R.H.get b = .cells true el c → off + v.cells.size ≤ c.length → okv 0 true v = true →
     (∀ i : Nat, Rd R (v.cells.toList.getD i Go.undef) (((c.drop off).take v.cells.size).getD i Go.undef)) → Rd R (vr k v) (.pointer (some ⟨b, off, none⟩))
 | mp (es es' : List (Value × Value)) (b : Nat) : R.prot b → R.M 0 b → R.H.get b = .map es' → es.map (·.1) = es'.map (·.1) → okvL 0 true (es.map (·.2)) = true →
     (∀ i : Nat, Rd R ((es.map (·.2)).getD i Go.undef) ((es'.map (·.2)).getD i Go.undef)) → Rd R (vm es) (.map (some b))
def RdL (R : Rl) (x y : List Value) : Prop := x.length = y.length ∧ ∀ i : Nat, Rd R (x.getD i Go.undef) (y.getD i Go.undef)
theorem zaej (g : Turn) : ∀ l : List Value, mapOwnL g l = l.map (mapOwn g)
 | [] => rfl
 | a :: l => by simp only [mapOwnL, List.map_cons, zaej g l]
theorem zacx : ∀ l : List Value, toksL l = l.flatMap toks
 | [] => rfl
 | a :: l => by simp only [toksL, List.flatMap_cons, zacx l]
theorem zade (n : Nat) (st : Bool) : ∀ l : List Value, okvL n st l = l.all (okv n st)
 | [] => rfl
 | a :: l => by simp only [okvL, List.all_cons, zade n st l]
theorem zac2 (g : Turn) (x : List Value) : mapOwn g (.agg ⟨x⟩) = .agg ⟨x.map (mapOwn g)⟩ := by simp only [mapOwn, mapOwnA, zaej]
theorem zag0 (g : Turn) (x : List Value) : mapOwn g (.tuple ⟨x⟩) = .tuple ⟨x.map (mapOwn g)⟩ := by simp only [mapOwn, mapOwnA, zaej]
theorem zagy (g : Turn) (t : TypeId) (v : Value) : mapOwn g (.iface t v) = .iface t (mapOwn g v) := by simp only [mapOwn]
theorem zaey (g : Turn) (f : FuncId) (x y : List Value) : mapOwn g (.func (.func f) ⟨x⟩ ⟨y⟩) = .func (.func f) ⟨x.map (mapOwn g)⟩ ⟨y.map (mapOwn g)⟩ := by simp only [mapOwn, mapOwnA, zaej]
theorem zaon (g : Turn) (d sz : Nat) (l : List Value) : mapOwn g (vs d sz l) = g (.ro d sz l) (vs d sz l) := _root_.id rfl
theorem zaib (g : Turn) (k : Tok) (sz off : Nat) (l : List Value) : mapOwn g (vo k sz off l) = g (.own k sz off l) (vo k sz off l) := _root_.id rfl
theorem zaom (g : Turn) (v : Value) : mapOwn g (vp v) = g (.at v) (vp v) := _root_.id rfl
theorem zajt (g : Turn) (b : Bool) : mapOwn g (.bool b) = .bool b := _root_.id rfl
theorem zady (g : Turn) (k : IntKind) (n : Int) : mapOwn g (.int k n) = .int k n := _root_.id rfl
theorem zabj (g : Turn) (s : ByteArray) : mapOwn g (.string s) = .string s := _root_.id rfl
theorem zacp (g : Turn) (a : Option Addr) : mapOwn g (.pointer a) = .pointer a := _root_.id rfl
theorem zagz (g : Turn) (a : Option Addr) (n c : Nat) : mapOwn g (.slice a n c) = .slice a n c := _root_.id rfl
theorem zaa9 (g : Turn) (a : Option Nat) : mapOwn g (.chan a) = .chan a := _root_.id rfl
theorem zahc (g : Turn) : mapOwn g .nilFunc = .nilFunc := _root_.id rfl
theorem zago (g : Turn) : mapOwn g .nilIface = .nilIface := _root_.id rfl
theorem zaiy (g : Turn) : mapOwn g undef = undef := _root_.id rfl
theorem zaol (g : Turn) : mapOwn g NR = NR := _root_.id rfl
theorem zaf5 (x : List Value) : toks (.agg ⟨x⟩) = x.flatMap toks := by simp only [toks, toksA, zacx]
theorem zaf6 (x : List Value) : toks (.tuple ⟨x⟩) = x.flatMap toks := by simp only [toks, toksA, zacx]
theorem zae8 (t : TypeId) (v : Value) : toks (.iface t v) = toks v := by simp only [toks]
theorem zajb (f : FuncId) (x y : List Value) : toks (.func (.func f) ⟨x⟩ ⟨y⟩) = x.flatMap toks ++ y.flatMap toks := by simp only [toks, toksA, zacx]
theorem zamp (d sz : Nat) (l : List Value) : toks (vs d sz l) = [] := _root_.id rfl
theorem zah2 (k : Tok) (sz off : Nat) (l : List Value) : toks (vo k sz off l) = [k] := _root_.id rfl
theorem zapa (es : List (Value × Value)) : toks (vm es) = [] := _root_.id rfl
theorem zaxt (v : Value) : toks (vp v) = [] := _root_.id rfl
theorem zats (k : Tok) (j : Nat) (v : Value) : toks (vq k j v) = [k] := _root_.id rfl
theorem zatt (k : Tok) (v : Value) : toks (vr k v) = [k] := _root_.id rfl
theorem zao9 {v : Value} (h : isScal v = true) : toks v = [] := by
 cases v <;> first | rfl | (simp [isScal] at h)
theorem zae1 (n : Nat) (st : Bool) (x : List Value) : okv n st (.agg ⟨x⟩) = x.all (okv n st) := by simp only [okv, okvA, zade]
theorem zagg (n : Nat) (st : Bool) (x : List Value) : okv n st (.tuple ⟨x⟩) = x.all (okv n st) := by simp only [okv, okvA, zade]
theorem zakx (n : Nat) (st : Bool) (t : TypeId) (v : Value) : okv n st (.iface t v) = okv n st v := by simp only [okv]
theorem zasz (n : Nat) (st : Bool) (f : FuncId) (x y : List Value) : okv n st (.func (.func f) ⟨x⟩ ⟨y⟩) = (x.all (okv n st) && y.all (okv n st)) := by simp only [okv, okvA, zade]
theorem okv_vs (n : Nat) (st : Bool) (d sz : Nat) (l : List Value) : okv n st (vs d sz l) = (!st || d == 0) := _root_.id rfl
theorem okv_vm (n : Nat) (st : Bool) (es : List (Value × Value)) : okv n st (vm es) = true := _root_.id rfl
theorem okv_vo (n : Nat) (st : Bool) (k : Tok) (sz off : Nat) (l : List Value) : okv n st (vo k sz off l) = false := _root_.id rfl
theorem okv_vp (n : Nat) (st : Bool) (v : Value) : okv n st (vp v) = false := _root_.id rfl
theorem okv_vq (n : Nat) (st : Bool) (k : Tok) (j : Nat) (v : Value) : okv n st (vq k j v) = false := _root_.id rfl
theorem okv_vr (n : Nat) (st : Bool) (k : Tok) (v : Value) : okv n st (vr k v) = false := _root_.id rfl
theorem zanh (n : Nat) (st : Bool) (b : Bool) : okv n st (.bool b) = true := _root_.id rfl
theorem zajv (n : Nat) (st : Bool) (k : IntKind) (i : Int) : okv n st (.int k i) = true := _root_.id rfl
theorem zae2 (n : Nat) (st : Bool) (s : ByteArray) : okv n st (.string s) = true := _root_.id rfl
theorem zas0 (n : Nat) (st : Bool) : okv n st (.pointer none) = true := _root_.id rfl
theorem zaov (n : Nat) (st : Bool) (a : Addr) : okv n st (.pointer (some a)) = decide (a.block < n) := _root_.id rfl
theorem zal2 (n : Nat) (st : Bool) : okv n st (.slice none 0 0) = true := _root_.id rfl
theorem zajw (n : Nat) (st : Bool) : okv n st .nilFunc = true := _root_.id rfl
theorem zai2 (n : Nat) (st : Bool) : okv n st .nilIface = true := _root_.id rfl
theorem zasy (n : Nat) (st : Bool) (a : Option Nat) : okv n st (.chan a) = false := _root_.id rfl
theorem zalu {v : Value} (h : isScal v = true) : isTok v = false := by
 cases v <;> first | rfl | (simp [isScal] at h)
def Nice (g : Turn) : Prop := ∀ v, isTok v = false → g (view v) v = v
theorem zabk (f : Tok → Fate) : Nice (fate f) := by
 intro v hv
 unfold isTok at hv
 unfold fate
 split at hv <;> simp_all
theorem zai1 (k : Tok) (j : Nat) (x : Value) : Nice (upd k j x) := by
 intro v hv
 unfold isTok at hv
 unfold upd
 split at hv <;> simp_all
mutual
theorem zaau {g : Turn} (hg : Nice g) : ∀ v : Value, toks v = [] → mapOwn g v = v
 | .func f x y, h => by
  cases f with
  | func i =>
   simp only [toks, List.append_eq_nil_iff] at h
   simp only [mapOwn, zafg hg x h.1, zafg hg y h.2]
  | _ =>
   simp only [mapOwn]
   apply hg
   unfold isTok
   simp only [toks] at h
   split at h <;> simp_all
 | .iface t v, h => by simp only [toks] at h; simp only [mapOwn, zaau hg v h]
 | .agg x, h => by simp only [toks] at h; simp only [mapOwn, zafg hg x h]
 | .tuple x, h => by simp only [toks] at h; simp only [mapOwn, zafg hg x h]
 | .bool _, _ => rfl
 | .int .., _ => rfl
 | .float .., _ => rfl
 | .complex .., _ => rfl
 | .string _, _ => rfl
 | .pointer _, _ => rfl
 | .slice .., _ => rfl
 | .map _, _ => rfl
 | .chan _, _ => rfl
 | .nilFunc, _ => rfl
 | .nilIface, _ => rfl
theorem zafg {g : Turn} (hg : Nice g) : ∀ x : Array Value, toksA x = [] → mapOwnA g x = x
 | ⟨x⟩, h => by simp only [toksA] at h; simp only [mapOwnA, zagx hg x h]
theorem zagx {g : Turn} (hg : Nice g) : ∀ x : List Value, toksL x = [] → mapOwnL g x = x
 | [], _ => rfl
 | a :: x, h => by
  simp only [toksL, List.append_eq_nil_iff] at h
  simp only [mapOwnL, zaau hg a h.1, zagx hg x h.2]
end
mutual
theorem zanq {n : Nat} {st : Bool} : ∀ v : Value, okv n st v = true → toks v = []
 | .func f x y, h => by
  cases f with
  | func i =>
   simp only [okv, Bool.and_eq_true] at h
   simp only [toks, zaie x h.1, zaie y h.2, List.append_nil]
  | _ =>
   simp only [okv] at h
   simp only [toks]
   split at h <;> simp_all
 | .iface t v, h => by simp only [okv] at h; simp only [toks, zanq v h]
 | .agg x, h => by simp only [okv] at h; simp only [toks, zaie x h]
 | .tuple x, h => by simp only [okv] at h; simp only [toks, zaie x h]
 | .bool _, _ => rfl
 | .int .., _ => rfl
 | .float .., _ => rfl
 | .complex .., _ => rfl
 | .string _, _ => rfl
 | .pointer _, _ => rfl
 | .slice .., _ => rfl
 | .map _, _ => rfl
 | .chan _, _ => rfl
 | .nilFunc, _ => rfl
 | .nilIface, _ => rfl
theorem zaie {n : Nat} {st : Bool} : ∀ x : Array Value, okvA n st x = true → toksA x = []
 | ⟨x⟩, h => by simp only [okvA] at h; simp only [toksA, zahk x h]
theorem zahk {n : Nat} {st : Bool} : ∀ x : List Value, okvL n st x = true → toksL x = []
 | [], _ => rfl
 | a :: x, h => by
  simp only [okvL, Bool.and_eq_true] at h
  simp only [toksL, zanq a h.1, zahk x h.2, List.append_nil]
end
theorem zaaz {x : List Value} (h : x.flatMap toks = []) (i : Nat) : toks (x.getD i undef) = [] := by
 rw [List.getD_eq_getElem?_getD]
 cases hi : x[i]? with
 | none => rfl
 | some a =>
  rw [List.flatMap_eq_nil_iff] at h
  exact h a (List.mem_of_getElem? hi)
theorem zaja (v : Value) : v.cells.toList.flatMap toks = toks v := by
 cases v with
 | agg x => obtain ⟨x⟩ := x; simp only [Value.cells, zaf5]
 | _ => simp only [Value.cells, List.flatMap_cons, List.flatMap_nil, List.append_nil]
theorem zaqu (l : List Value) : (cellsL l).flatMap toks = l.flatMap toks := by
 induction l with
 | nil => rfl
 | cons a l ih => simp only [cellsL, List.flatMap_cons, List.flatMap_append, zaja] at ih ⊢; rw [ih]
theorem zadj {l : List Value} (h : okvL 0 true l = true) : (cellsL l).flatMap toks = [] := by
 rw [zaqu, ← zacx]; exact zahk l h
theorem zada {v : Value} (h : okv 0 true v = true) : v.cells.toList.flatMap toks = [] := by
 rw [zaja]; exact zanq v h
section
variable {R R' : Rl}
structure Stays (R R' : Rl) : Prop where
 φ : ∀ (i b : Nat), R.φ[i]? = some b → R'.φ[i]? = some b
 prot : ∀ b, R.prot b → R'.prot b ∧ R'.H.get b = R.H.get b
 M : ∀ d b, R.prot b → R.M d b → R'.M d b
theorem Rd.free (hs : Stays R R') {v u : Value} (h : Rd R v u) : toks v = [] → Rd R' v u := by
 induction h with
 | stale i u h => intro _; exact .stale i u h
 | nr => intro _; exact .nr
 | undef u => intro _; exact .undef u
 | scal v h => intro _; exact .scal v h
 | ptr i off b h => intro _; exact .ptr i off b (hs.φ _ _ h)
 | clo f x y x' y' h1 h2 _ _ ih1 ih2 =>
  intro ht
  rw [zajb, List.append_eq_nil_iff] at ht
  exact .clo f x y x' y' h1 h2 (fun i => ih1 i (zaaz ht.1 i)) (fun i => ih2 i (zaaz ht.2 i))
 | iface t v u _ ih => intro ht; exact .iface t v u (ih (by rwa [zae8] at ht))
 | agg x y h1 _ ih => intro ht; rw [zaf5] at ht; exact .agg x y h1 fun i => ih i (zaaz ht i)
 | tuple x y h1 _ ih => intro ht; rw [zaf6] at ht; exact .tuple x y h1 fun i => ih i (zaaz ht i)
 | ro d sz l b off o el c h0 hp hM hg hl hsz hok _ ih =>
  intro _
  exact .ro d sz l b off o el c h0 (hs.prot b hp).1 (hs.M d b hp hM) (by rw [(hs.prot b hp).2, hg]) hl hsz hok fun i => ih i (zaaz (zadj hok) i)
 | roE d sz b off h => intro _; exact .roE d sz b off h
 | mp es es' b hp hM hg hk hok _ ih =>
  intro _
  exact .mp es es' b (hs.prot b hp).1 (hs.M 0 b hp hM) (by rw [(hs.prot b hp).2, hg]) hk hok fun i => ih i (zaaz (by rw [← zacx]; exact zahk _ hok) i)
 | own k sz j l b el c => intro ht; rw [zah2] at ht; cases ht
 | «at» v d b off o el c hp hM hg hl hok _ ih =>
  intro _
  exact .at v d b off o el c (hs.prot b hp).1 (hs.M d b hp hM) (by rw [(hs.prot b hp).2, hg]) hl hok fun i => ih i (zaaz (zada hok) i)
 | atOwn k sz j v b el c => intro ht; rw [zats] at ht; cases ht
 | inOwn k v b off el c => intro ht; rw [zatt] at ht; cases ht
theorem zabn (g : Turn) (x : List Value) (i : Nat) : (x.map (mapOwn g)).getD i undef = mapOwn g (x.getD i undef) := by
 rw [List.getD_eq_getElem?_getD, List.getD_eq_getElem?_getD, List.getElem?_map]
 cases x[i]? <;> rfl
theorem Rd.turn {g : Turn} (hg : Nice g) (hs : Stays R R') (hown : ∀ v u, isTok v = true → Rd R v u → Rd R' (g (view v) v) u) {v u : Value} (h : Rd R v u) : Rd R' (mapOwn g v) u := by
 induction h with
 | stale i u h => exact .stale i u h
 | nr => exact .nr
 | undef u => exact .undef u
 | scal v h => rw [zaau hg v (zao9 h)]; exact .scal v h
 | ptr i off b h => exact .ptr i off b (hs.φ _ _ h)
 | clo f x y x' y' h1 h2 _ _ ih1 ih2 =>
  rw [zaey]
  exact .clo f _ _ x' y' (by simpa using h1) (by simpa using h2) (fun i => by rw [zabn]; exact ih1 i) (fun i => by rw [zabn]; exact ih2 i)
 | iface t v u _ ih => rw [zagy]; exact .iface t _ u ih
 | agg x y h1 _ ih => rw [zac2]; exact .agg _ y (by simpa using h1) fun i => by rw [zabn]; exact ih i
 | tuple x y h1 _ ih => rw [zag0]; exact .tuple _ y (by simpa using h1) fun i => by rw [zabn]; exact ih i
 | ro d sz l b off o el c h0 hp hM hgt hl hsz hok h9 _ =>
  rw [zaau hg _ (zamp d sz l)]
  exact Rd.free hs (.ro d sz l b off o el c h0 hp hM hgt hl hsz hok h9) (zamp d sz l)
 | roE d sz b off h => rw [zaau hg _ (zamp d sz [])]; exact .roE d sz b off h
 | mp es es' b hp hM hgt hk hok h9 _ =>
  rw [zaau hg _ (zapa es)]
  exact Rd.free hs (.mp es es' b hp hM hgt hk hok h9) (zapa es)
 | own k sz j l b el c h0 h1 h2 h3 h4 h5 h6 _ => exact hown (vo k sz j l) _ rfl (.own k sz j l b el c h0 h1 h2 h3 h4 h5 h6)
 | «at» v d b off o el c hp hM hgt hl hok h9 _ =>
  rw [zaau hg _ (zaxt v)]
  exact Rd.free hs (.at v d b off o el c hp hM hgt hl hok h9) (zaxt v)
 | atOwn k sz j v b el c h0 h1 h2 h3 h4 h5 h6 _ => exact hown (vq k j v) _ rfl (.atOwn k sz j v b el c h0 h1 h2 h3 h4 h5 h6)
 | inOwn k v b off el c h1 h2 h3 h4 h5 _ => exact hown (vr k v) _ rfl (.inOwn k v b off el c h1 h2 h3 h4 h5)
end
structure FateOk (R R' : Rl) (f : Tok → Fate) : Prop where
 keep : ∀ k b, R.ρ k = some b → f k = .keep → R'.ρ k = some b ∧ R'.H.get b = R.H.get b
 thaw : ∀ k b d, R.ρ k = some b → f k = .thaw d → R'.prot b ∧ R'.M d b ∧ R'.H.get b = R.H.get b
 to : ∀ k b k', R.ρ k = some b → f k = .to k' → R'.ρ k' = some b ∧ R'.H.get b = R.H.get b
theorem Rd.fate {R R' : Rl} {f : Tok → Fate} (hs : Stays R R') (hf : FateOk R R' f) {v u : Value} (h : Rd R v u) : Rd R' (mapOwn (fate f) v) u := by
 refine Rd.turn (zabk f) hs ?_ h
 intro v u hv h
 cases h with
 | own k sz j l b el c h0 h1 h2 h3 h4 h5 h6 =>
  have h6' := fun i => Rd.free hs (h6 i) (zaaz (zadj h5) i)
  rw [zabs]
  simp only [Abs.fate]
  cases hk : f k with
  | keep => obtain ⟨g1, g2⟩ := hf.keep k b h1 hk; exact .own k sz j l b el c h0 g1 (by rw [g2, h2]) h3 h4 h5 h6'
  | drop => exact .stale 1 _ (by decide)
  | thaw d => obtain ⟨g1, g2, g3⟩ := hf.thaw k b d h1 hk; exact .ro d sz l b (j * sz) true el c h0 g1 g2 (by rw [g3, h2]) h3 h4 h5 h6'
  | to k' => obtain ⟨g1, g2⟩ := hf.to k b k' h1 hk; exact .own k' sz j l b el c h0 g1 (by rw [g2, h2]) h3 h4 h5 h6'
 | atOwn k sz j v b el c h0 h1 h2 h3 h4 h5 h6 =>
  have h6' := fun i => Rd.free hs (h6 i) (zaaz (zada h5) i)
  rw [zacs]
  simp only [Abs.fate]
  cases hk : f k with
  | keep => obtain ⟨g1, g2⟩ := hf.keep k b h1 hk; exact .atOwn k sz j v b el c h0 g1 (by rw [g2, h2]) h3 h4 h5 h6'
  | drop => exact .stale 1 _ (by decide)
  | thaw d => obtain ⟨g1, g2, g3⟩ := hf.thaw k b d h1 hk; exact .at v d b (j * sz) true el c g1 g2 (by rw [g3, h2]) (by omega) h5 h6'
  | to k' => obtain ⟨g1, g2⟩ := hf.to k b k' h1 hk; exact .atOwn k' sz j v b el c h0 g1 (by rw [g2, h2]) h3 h4 h5 h6'
 | inOwn k v b off el c h1 h2 h3 h4 h5 =>
  have h5' := fun i => Rd.free hs (h5 i) (zaaz (zada h4) i)
  rw [zact]
  simp only [Abs.fate]
  cases hk : f k with
  | keep => obtain ⟨g1, g2⟩ := hf.keep k b h1 hk; exact .inOwn k v b off el c g1 (by rw [g2, h2]) h3 h4 h5'
  | drop => exact .stale 1 _ (by decide)
  | thaw d => obtain ⟨g1, g2, g3⟩ := hf.thaw k b d h1 hk; exact .at v d b off true el c g1 g2 (by rw [g3, h2]) h3 h4 h5'
  | to k' => obtain ⟨g1, g2⟩ := hf.to k b k' h1 hk; exact .inOwn k' v b off el c g1 (by rw [g2, h2]) h3 h4 h5'
 | scal v h => rw [zalu h] at hv; cases hv
 | _ => exact absurd (show false = true from hv) (by decide)
end Go.Proofs.YtliemjbafgnnbaaDoor.Abs
/- Light operations over values with their slices. -/
namespace Go.Proofs.YtliemjbafgnnbaaDoor.Abs
open Go
section
variable {R : Rl}
theorem RdL.nil : RdL R [] [] := ⟨rfl, fun i => by simp; exact .undef _⟩
theorem RdL.cons {v u : Value} {x y : List Value} (h : Rd R v u) (k : RdL R x y) : RdL R (v :: x) (u :: y) :=
 ⟨by simp [k.1], fun i => by cases i with
  | zero => simpa using h
  | succ i => have := k.2 i; simpa using this⟩
theorem RdL.head {v u : Value} {x y : List Value} (h : RdL R (v :: x) (u :: y)) : Rd R v u := by have := h.2 0; simpa using this
theorem RdL.tail {v u : Value} {x y : List Value} (h : RdL R (v :: x) (u :: y)) : RdL R x y :=
 ⟨by have := h.1; simpa using this, fun i => by have := h.2 (i + 1); simpa using this⟩
theorem RdL.append {a a' b b' : List Value} (h : RdL R a a') (k : RdL R b b') : RdL R (a ++ b) (a' ++ b') := by
 induction a generalizing a' with
 | nil =>
  have : a' = [] := by have := h.1; simpa using this.symm
  subst this; simpa using k
 | cons v a ih =>
  cases a' with
  | nil => have := h.1; simp at this
  | cons v' a' => exact .cons h.head (ih h.tail)
theorem RdL.get? {x y : List Value} (h : RdL R x y) {i : Nat} {v : Value} (hv : x[i]? = some v) : ∃ u, y[i]? = some u ∧ Rd R v u := by
 have hi : i < x.length := by
  rcases Nat.lt_or_ge i x.length with h | h
  ·exact h
  ·rw [List.getElem?_eq_none h] at hv; cases hv
 have hi' : i < y.length := h.1 ▸ hi
 refine ⟨y[i], by simp [hi'], ?_⟩
 have := h.2 i
 rw [List.getD_eq_getElem?_getD, List.getD_eq_getElem?_getD, hv, List.getElem?_eq_getElem hi'] at this
 simpa using this
theorem RdL.drop {x y : List Value} (h : RdL R x y) (n : Nat) : RdL R (x.drop n) (y.drop n) :=
 ⟨by simp [h.1], fun i => by have := h.2 (n + i); simpa [List.getD_eq_getElem?_getD] using this⟩
theorem RdL.take {x y : List Value} (h : RdL R x y) (n : Nat) : RdL R (x.take n) (y.take n) :=
 ⟨by simp [h.1], fun i => by
  by_cases hi : i < n
  ·have := h.2 i; simpa [List.getD_eq_getElem?_getD, List.getElem?_take, hi] using this
  ·simp [List.getD_eq_getElem?_getD, List.getElem?_take, hi]; exact .undef _⟩
theorem RdL.of_forall {x y : List Value} (hl : x.length = y.length) (h : ∀ (i : Nat) v u, x[i]? = some v → y[i]? = some u → Rd R v u) : RdL R x y :=
 ⟨hl, fun i => by
  rcases Nat.lt_or_ge i x.length with hi | hi
  ·have hi' : i < y.length := hl ▸ hi
   have := h i _ _ (List.getElem?_eq_getElem hi) (List.getElem?_eq_getElem hi')
   simpa [List.getD_eq_getElem?_getD, List.getElem?_eq_getElem, hi, hi'] using this
  ·simp [List.getD_eq_getElem?_getD, List.getElem?_eq_none hi]; exact .undef _⟩
theorem RdL.set {x y : List Value} (h : RdL R x y) (i : Nat) {v u : Value} (hv : Rd R v u) : RdL R (x.set i v) (y.set i u) := by
 refine .of_forall (by simp [h.1]) fun j a b ha hb => ?_
 rw [List.getElem?_set] at ha hb
 by_cases hij : i = j
 ·subst hij
  rw [if_pos rfl] at ha hb
  split at ha
  ·split at hb
   ·cases ha; cases hb; exact hv
   ·cases hb
  ·cases ha
 ·rw [if_neg hij] at ha hb
  obtain ⟨u', h1, h2⟩ := h.get? ha
  rw [hb] at h1; cases h1; exact h2
theorem RdL.setAll {x y a b : List Value} (h : RdL R x y) (k : RdL R a b) (i : Nat) : RdL R (setAll x i a) (setAll y i b) := by
 induction a generalizing b x y i with
 | nil =>
  have : b = [] := by have := k.1; simpa using this.symm
  subst this; exact h
 | cons v a ih =>
  cases b with
  | nil => have := k.1; simp at this
  | cons u b => exact ih (h.set i k.head) k.tail (i + 1)
theorem RdL.map {α : Type} {f g : α → Value} (l : List α) (h : ∀ x ∈ l, Rd R (f x) (g x)) : RdL R (l.map f) (l.map g) := by
 induction l with
 | nil => exact .nil
 | cons a l ih => exact .cons (h a (by simp)) (ih fun x hx => h x (by simp [hx]))
theorem RdL.sub {x y : List Value} (h : RdL R x y) {i n : Nat} : RdL R ((x.drop i).take n) ((y.drop i).take n) := (h.drop i).take n
theorem Rd.agg_of {x y : List Value} (h : RdL R x y) : Rd R (.agg ⟨x⟩) (.agg ⟨y⟩) := .agg x y h.1 h.2
theorem Rd.int (k : IntKind) (n : Int) : Rd R (.int k n) (.int k n) := .scal _ rfl
theorem Rd.bool (b : Bool) : Rd R (.bool b) (.bool b) := .scal _ rfl
theorem Rd.string (s : ByteArray) : Rd R (.string s) (.string s) := .scal _ rfl
theorem zagl {v : Value} (h : isScal v = true) : view v = .other := by
 cases v <;> first | rfl | (simp [isScal] at h)
theorem Rd.inv_scal {v u : Value} (hv : isScal v = true) (h : Rd R v u) : u = v := by
 cases h with
 | scal v _ => rfl
 | _ => exact absurd (show false = true from hv) (by decide)
theorem Rd.inv_bool {b : Bool} {u : Value} (h : Rd R (.bool b) u) : u = .bool b := h.inv_scal rfl
theorem Rd.inv_int {k : IntKind} {n : Int} {u : Value} (h : Rd R (.int k n) u) : u = .int k n := h.inv_scal rfl
theorem Rd.inv_string {s : ByteArray} {u : Value} (h : Rd R (.string s) u) : u = .string s := h.inv_scal rfl
theorem Rd.inv_slice0 {u : Value} (h : Rd R (.slice none 0 0) u) : u = .slice none 0 0 := h.inv_scal rfl
theorem Rd.inv_agg {x : List Value} {u : Value} (h : Rd R (.agg ⟨x⟩) u) : ∃ y, u = .agg ⟨y⟩ ∧ RdL R x y := by
 cases h with
 | agg x y h1 h2 => exact ⟨y, rfl, h1, h2⟩
 | scal v h => simp [isScal] at h
theorem Rd.inv_ptr {a : Addr} {u : Value} (h : Rd R (.pointer (some a)) u) : ∃ b, R.φ[a.block]? = some b ∧ a.spot = none ∧ u = .pointer (some ⟨b, a.off, none⟩) := by
 cases h with
 | ptr i off b h => exact ⟨b, h, rfl, rfl⟩
 | scal v h => simp [isScal] at h
theorem Rd.inv_clo {f : FuncId} {x y : List Value} {u : Value} (h : Rd R (.func (.func f) ⟨x⟩ ⟨y⟩) u) : ∃ x' y', u = .func (.func f) ⟨x'⟩ ⟨y'⟩ ∧ RdL R x x' ∧ RdL R y y' := by
 cases h with
 | clo f x y x' y' h1 h2 h3 h4 => exact ⟨x', y', rfl, ⟨h1, h3⟩, ⟨h2, h4⟩⟩
 | scal v h => simp [isScal] at h
theorem Rd.is_ro {v u : Value} {d sz : Nat} {l : List Value} (hv : view v = .ro d sz l) (h : Rd R v u) : v = vs d sz l := by
 cases h with
 | ro => rw [zabc] at hv; cases hv; rfl
 | roE => rw [zabc] at hv; cases hv; rfl
 | scal v h => rw [zagl h] at hv; cases hv
 | own => rw [zabs] at hv; cases hv
 | «at» => rw [zac8] at hv; cases hv
 | atOwn => rw [zacs] at hv; cases hv
 | inOwn => rw [zact] at hv; cases hv
 | mp => rw [zac7] at hv; cases hv
 | _ => cases hv
theorem Rd.is_own {v u : Value} {k : Tok} {sz off : Nat} {l : List Value} (hv : view v = .own k sz off l) (h : Rd R v u) : v = vo k sz off l := by
 cases h with
 | ro => rw [zabc] at hv; cases hv
 | roE => rw [zabc] at hv; cases hv
 | scal v h => rw [zagl h] at hv; cases hv
 | own => rw [zabs] at hv; cases hv; rfl
 | «at» => rw [zac8] at hv; cases hv
 | atOwn => rw [zacs] at hv; cases hv
 | inOwn => rw [zact] at hv; cases hv
 | mp => rw [zac7] at hv; cases hv
 | _ => cases hv
theorem Rd.is_at {v u w : Value} (hv : view v = .at w) (h : Rd R v u) : v = vp w := by
 cases h with
 | ro => rw [zabc] at hv; cases hv
 | roE => rw [zabc] at hv; cases hv
 | scal v h => rw [zagl h] at hv; cases hv
 | own => rw [zabs] at hv; cases hv
 | «at» => rw [zac8] at hv; cases hv; rfl
 | atOwn => rw [zacs] at hv; cases hv
 | inOwn => rw [zact] at hv; cases hv
 | mp => rw [zac7] at hv; cases hv
 | _ => cases hv
theorem Rd.is_atOwn {v u w : Value} {k : Tok} {j : Nat} (hv : view v = .atOwn k j w) (h : Rd R v u) : v = vq k j w := by
 cases h with
 | ro => rw [zabc] at hv; cases hv
 | roE => rw [zabc] at hv; cases hv
 | scal v h => rw [zagl h] at hv; cases hv
 | own => rw [zabs] at hv; cases hv
 | «at» => rw [zac8] at hv; cases hv
 | atOwn => rw [zacs] at hv; cases hv; rfl
 | inOwn => rw [zact] at hv; cases hv
 | mp => rw [zac7] at hv; cases hv
 | _ => cases hv
theorem Rd.is_inOwn {v u w : Value} {k : Tok} (hv : view v = .inOwn k w) (h : Rd R v u) : v = vr k w := by
 cases h with
 | ro => rw [zabc] at hv; cases hv
 | roE => rw [zabc] at hv; cases hv
 | scal v h => rw [zagl h] at hv; cases hv
 | own => rw [zabs] at hv; cases hv
 | «at» => rw [zac8] at hv; cases hv
 | atOwn => rw [zacs] at hv; cases hv
 | inOwn => rw [zact] at hv; cases hv; rfl
 | mp => rw [zac7] at hv; cases hv
 | _ => cases hv
theorem za3p (d sz : Nat) (l : List Value) : isScal (vs d sz l) = false := rfl
theorem za3f (k : Tok) (sz j : Nat) (l : List Value) : isScal (vo k sz j l) = false := rfl
theorem Rd.inv_ro {d sz : Nat} {l : List Value} {u : Value} (h : Rd R (vs d sz l) u) : ∃ b off, u = .slice (some ⟨b, off, none⟩) l.length sz ∧ 0 < sz ∧
    (l = [] ∨ ∃ o el c, R.prot b ∧ R.M d b ∧ R.H.get b = .cells o el c ∧ off + l.length * sz ≤ c.length ∧ (∀ x ∈ l, x.cells.size = sz) ∧ okvL 0 true l = true ∧ RdL R (cellsL l) ((c.drop off).take (l.length * sz))) := by
 generalize hv : vs d sz l = v at h
 cases h with
 | ro d' sz' l' b off o el c h0 hp hM hg hl hsz hok hc =>
  have := congrArg view hv
  rw [zabc, zabc] at this
  cases this
  refine ⟨b, off, rfl, h0, .inr ⟨o, el, c, hp, hM, hg, hl, hsz, hok, ?_, hc⟩⟩
  have : ∀ l : List Value, (∀ x ∈ l, x.cells.size = sz) → (cellsL l).length = l.length * sz := by
   intro l
   induction l with
   | nil => intro _; simp [cellsL]
   | cons a l ih =>
    intro h
    have h1 := ih fun x hx => h x (by simp [hx])
    have h2 := h a (by simp)
    simp only [cellsL, List.flatMap_cons, List.length_append, List.length_cons] at h1 ⊢
    rw [h1, Nat.add_mul, Nat.one_mul, Array.length_toList, h2]; omega
  rw [this l hsz, List.length_take, List.length_drop]; omega
 | roE d' sz' b off h0 =>
  have := congrArg view hv
  rw [zabc, zabc] at this
  cases this
  exact ⟨b, off, rfl, h0, .inl rfl⟩
 | scal v h => rw [← hv, za3p] at h; cases h
 | own => have := congrArg view hv; rw [zabc, zabs] at this; cases this
 | «at» => have := congrArg view hv; rw [zabc, zac8] at this; cases this
 | atOwn => have := congrArg view hv; rw [zabc, zacs] at this; cases this
 | inOwn => have := congrArg view hv; rw [zabc, zact] at this; cases this
 | mp => have := congrArg view hv; rw [zabc, zac7] at this; cases this
 | _ => have := congrArg view hv; rw [zabc] at this; cases this
theorem Rd.is_mp {v u : Value} {l : List Value} (hv : view v = .mp l) (h : Rd R v u) : ∃ es, v = vm es ∧ l = es.map encE := by
 cases h with
 | ro => rw [zabc] at hv; cases hv
 | roE => rw [zabc] at hv; cases hv
 | scal v h => rw [zagl h] at hv; cases hv
 | own => rw [zabs] at hv; cases hv
 | «at» => rw [zac8] at hv; cases hv
 | atOwn => rw [zacs] at hv; cases hv
 | inOwn => rw [zact] at hv; cases hv
 | mp es => rw [zac7] at hv; cases hv; exact ⟨es, rfl, rfl⟩
 | _ => cases hv
theorem zazu : ∀ {a b : List (Value × Value)}, a.map encE = b.map encE → a = b := by
 intro a b h
 have := congrArg (List.map decE) h
 simpa [List.map_map, Function.comp_def, zar1] using this
theorem Rd.inv_mp {es : List (Value × Value)} {u : Value} (h : Rd R (vm es) u) : ∃ b es', u = .map (some b) ∧ R.prot b ∧ R.M 0 b ∧ R.H.get b = .map es' ∧ es.map (·.1) = es'.map (·.1) ∧ okvL 0 true (es.map (·.2)) = true ∧ RdL R (es.map (·.2)) (es'.map (·.2)) := by
 generalize hv : vm es = v at h
 cases h with
 | mp e0 es' b hp hM hg hk hok h9 =>
  have := congrArg view hv
  rw [zac7, zac7] at this
  cases zazu (View.mp.inj this)
  refine ⟨b, es', rfl, hp, hM, hg, hk, hok, ?_, h9⟩
  have := congrArg List.length hk
  simpa using this
 | ro => have := congrArg view hv; rw [zabc, zac7] at this; cases this
 | roE => have := congrArg view hv; rw [zabc, zac7] at this; cases this
 | scal v h => rw [← hv] at h; cases h
 | own => have := congrArg view hv; rw [zabs, zac7] at this; cases this
 | «at» => have := congrArg view hv; rw [zac8, zac7] at this; cases this
 | atOwn => have := congrArg view hv; rw [zac7, zacs] at this; cases this
 | inOwn => have := congrArg view hv; rw [zac7, zact] at this; cases this
 | _ => have := congrArg view hv; rw [zac7] at this; cases this
theorem zadv {sz : Nat} {l : List Value} (h : ∀ x ∈ l, x.cells.size = sz) : (cellsL l).length = l.length * sz := by
 induction l with
 | nil => simp [cellsL]
 | cons a l ih =>
  have h1 := ih fun x hx => h x (by simp [hx])
  have h2 := h a (by simp)
  simp only [cellsL, List.flatMap_cons, List.length_append, List.length_cons] at h1 ⊢
  rw [h1, Nat.add_mul, Nat.one_mul, Array.length_toList, h2]; omega
theorem Rd.inv_own {k : Tok} {sz j : Nat} {l : List Value} {u : Value} (h : Rd R (vo k sz j l) u) : ∃ b el c, u = .slice (some ⟨b, j * sz, none⟩) l.length sz ∧ 0 < sz ∧ R.ρ k = some b ∧ R.H.get b = .cells true el c ∧ j * sz + l.length * sz ≤ c.length ∧ (∀ x ∈ l, x.cells.size = sz) ∧ okvL 0 true l = true ∧
    RdL R (cellsL l) ((c.drop (j * sz)).take (l.length * sz)) := by
 generalize hv : vo k sz j l = v at h
 cases h with
 | own k' sz' j' l' b el c h0 hp hg hl hsz hok hc =>
  have := congrArg view hv
  rw [zabs, zabs] at this
  cases this
  exact ⟨b, el, c, rfl, h0, hp, hg, hl, hsz, hok, by rw [zadv hsz, List.length_take, List.length_drop]; omega, hc⟩
 | ro => have := congrArg view hv; rw [zabc, zabs] at this; cases this
 | roE => have := congrArg view hv; rw [zabc, zabs] at this; cases this
 | scal v h => rw [← hv, za3f] at h; cases h
 | «at» => have := congrArg view hv; rw [zabs, zac8] at this; cases this
 | atOwn => have := congrArg view hv; rw [zabs, zacs] at this; cases this
 | inOwn => have := congrArg view hv; rw [zabs, zact] at this; cases this
 | mp => have := congrArg view hv; rw [zabs, zac7] at this; cases this
 | _ => have := congrArg view hv; rw [zabs] at this; cases this
def Reads (R : Rl) (x : Value) (b off : Nat) : Prop := ∃ o el c, R.H.get b = .cells o el c ∧ off + x.cells.size ≤ c.length ∧ okv 0 true x = true ∧ RdL R x.cells.toList ((c.drop off).take x.cells.size)
theorem Rd.inv_at {v u : Value} (h : Rd R (vp v) u) : ∃ b off, u = .pointer (some ⟨b, off, none⟩) ∧ (R.prot b ∧ ∃ d, R.M d b) ∧ Reads R v b off := by
 generalize hv : vp v = w at h
 cases h with
 | «at» v' d b off o el c hp hM hg hl hok hc =>
  have := congrArg view hv
  rw [zac8, zac8] at this
  cases this
  exact ⟨b, off, rfl, ⟨hp, d, hM⟩, o, el, c, hg, hl, hok, by rw [Array.length_toList, List.length_take, List.length_drop]; omega, hc⟩
 | ro => have := congrArg view hv; rw [zabc, zac8] at this; cases this
 | roE => have := congrArg view hv; rw [zabc, zac8] at this; cases this
 | scal v h => rw [← hv] at h; cases h
 | own => have := congrArg view hv; rw [zabs, zac8] at this; cases this
 | atOwn => have := congrArg view hv; rw [zac8, zacs] at this; cases this
 | inOwn => have := congrArg view hv; rw [zac8, zact] at this; cases this
 | mp => have := congrArg view hv; rw [zac8, zac7] at this; cases this
 | _ => have := congrArg view hv; rw [zac8] at this; cases this
theorem Rd.inv_atOwn {k : Tok} {j : Nat} {v u : Value} (h : Rd R (vq k j v) u) : ∃ sz b, u = .pointer (some ⟨b, j * sz, none⟩) ∧ 0 < sz ∧ v.cells.size = sz ∧ R.ρ k = some b ∧ (∃ el c, R.H.get b = .cells true el c) ∧ Reads R v b (j * sz) := by
 generalize hv : vq k j v = w at h
 cases h with
 | atOwn k' sz j' v' b el c h0 hp hg hs hl hok hc =>
  have := congrArg view hv
  rw [zacs, zacs] at this
  cases this
  exact ⟨sz, b, rfl, h0, hs, hp, ⟨el, c, hg⟩, true, el, c, hg, by omega, hok, by rw [Array.length_toList, List.length_take, List.length_drop]; omega, hc⟩
 | ro => have := congrArg view hv; rw [zabc, zacs] at this; cases this
 | roE => have := congrArg view hv; rw [zabc, zacs] at this; cases this
 | scal v h => rw [← hv] at h; cases h
 | own => have := congrArg view hv; rw [zabs, zacs] at this; cases this
 | «at» => have := congrArg view hv; rw [zac8, zacs] at this; cases this
 | inOwn => have := congrArg view hv; rw [zacs, zact] at this; cases this
 | mp => have := congrArg view hv; rw [zacs, zac7] at this; cases this
 | _ => have := congrArg view hv; rw [zacs] at this; cases this
theorem Rd.inv_inOwn {k : Tok} {v u : Value} (h : Rd R (vr k v) u) : ∃ b off, u = .pointer (some ⟨b, off, none⟩) ∧ R.ρ k = some b ∧ (∃ el c, R.H.get b = .cells true el c) ∧ Reads R v b off := by
 generalize hv : vr k v = w at h
 cases h with
 | inOwn k' v' b off el c hp hg hl hok hc =>
  have := congrArg view hv
  rw [zact, zact] at this
  cases this
  exact ⟨b, off, rfl, hp, ⟨el, c, hg⟩, true, el, c, hg, hl, hok, by rw [Array.length_toList, List.length_take, List.length_drop]; omega, hc⟩
 | ro => have := congrArg view hv; rw [zabc, zact] at this; cases this
 | roE => have := congrArg view hv; rw [zabc, zact] at this; cases this
 | scal v h => rw [← hv] at h; cases h
 | own => have := congrArg view hv; rw [zabs, zact] at this; cases this
 | «at» => have := congrArg view hv; rw [zac8, zact] at this; cases this
 | atOwn => have := congrArg view hv; rw [zact, zacs] at this; cases this
 | mp => have := congrArg view hv; rw [zact, zac7] at this; cases this
 | _ => have := congrArg view hv; rw [zact] at this; cases this
theorem Rd.flat_eq : ∀ (n : Nat) (v u : Value), flat n v = true → Rd R v u → u = v := by
 intro n
 induction n with
 | zero =>
  intro v u hf h
  cases h with
  | scal v _ => rfl
  | _ => exact absurd (show false = true from hf) (by decide)
 | succ n ih =>
  intro v u hf h
  cases h with
  | scal v _ => rfl
  | agg x y h1 h2 =>
   have : ∀ (x y : List Value), RdL R x y → (∀ v ∈ x, flat n v = true) → y = x := by
    intro x
    induction x with
    | nil => intro y h _; have := h.1; simpa using this.symm
    | cons a x ihx =>
     intro y h hx
     cases y with
     | nil => have := h.1; simp at this
     | cons b y => rw [ih a b (hx a (by simp)) h.head, ihx y h.tail fun v hv => hx v (by simp [hv])]
   rw [this x y ⟨h1, h2⟩ fun v hv => by simp only [flat, List.all_eq_true, Bool.and_eq_true] at hf; exact (hf v hv).1]
  | iface t v u h => rw [ih v u (by simpa [flat] using hf) h]
  | _ => exact absurd (show false = true from hf) (by decide)
theorem Rd.not_tup {v u : Value} (h : Rd R v u) (ht : isTup v = false) : isTup u = false := by
 cases h with
 | scal v hs => exact ht
 | _ => first | rfl | (cases ht)
theorem Rd.cells {v u : Value} (h : Rd R v u) (ht : isTup v = false) : RdL R v.cells.toList u.cells.toList := by
 cases h with
 | agg x y h1 h2 => exact ⟨h1, h2⟩
 | scal v hs => cases v <;> first | (simp [isScal] at hs; done) | exact .cons (.scal _ hs) .nil
 | stale => cases ht
 | nr => cases ht
 | undef => cases ht
 | tuple => cases ht
 | ptr i off b h => exact .cons (.ptr i off b h) .nil
 | clo f x y x' y' h1 h2 h3 h4 => exact .cons (.clo f x y x' y' h1 h2 h3 h4) .nil
 | iface t v u h => exact .cons (.iface t v u h) .nil
 | ro d sz l b off o el c h1 h2 h3 h4 h5 h6 h7 h8 => exact .cons (.ro d sz l b off o el c h1 h2 h3 h4 h5 h6 h7 h8) .nil
 | roE d sz b off h => exact .cons (.roE d sz b off h) .nil
 | mp es es' b h1 h2 h3 h4 h5 h6 => exact .cons (.mp es es' b h1 h2 h3 h4 h5 h6) .nil
 | own k sz j l b el c h1 h2 h3 h4 h5 h6 h7 => exact .cons (.own k sz j l b el c h1 h2 h3 h4 h5 h6 h7) .nil
 | «at» v d b off o el c h1 h0 h2 h3 h4 h5 => exact .cons (.at v d b off o el c h1 h0 h2 h3 h4 h5) .nil
 | atOwn k sz j v b el c h1 h2 h3 h4 h5 h6 h7 => exact .cons (.atOwn k sz j v b el c h1 h2 h3 h4 h5 h6 h7) .nil
 | inOwn k v b off el c h1 h2 h3 h4 h5 => exact .cons (.inOwn k v b off el c h1 h2 h3 h4 h5) .nil
theorem Rd.cells_size {v u : Value} (h : Rd R v u) (ht : isTup v = false) : u.cells.size = v.cells.size := by
 have := (h.cells ht).1
 simpa using this.symm
end
end Go.Proofs.YtliemjbafgnnbaaDoor.Abs
