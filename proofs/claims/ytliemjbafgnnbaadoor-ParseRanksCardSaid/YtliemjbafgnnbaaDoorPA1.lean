/- A plain evaluator of Go code over a heap of numbered blocks, without a tape: what a call computes, where no order and no capacity can be told. -/
import Derived.Orders
import Derived.Below
set_option maxHeartbeats 0
set_option linter.unusedSimpArgs false
set_option linter.unusedVariables false
namespace Go.Proofs.YtliemjbafgnnbaaDoor.Abs
open Go
abbrev Env := List Value
def eget (e : Env) (i : Nat) : Value := e.getD i undef
def eset : Env → Nat → Value → Env
 | [], 0, v => [v]
 | [], i + 1, v => undef :: eset [] i v
 | _ :: xs, 0, v => v :: xs
 | x :: xs, i + 1, v => x :: eset xs i v
theorem zaaq (x : Value) (xs : Env) : eget (x :: xs) 0 = x := _root_.id rfl
theorem zaap (x : Value) (xs : Env) (i : Nat) : eget (x :: xs) (i + 1) = eget xs i := by simp [eget]
theorem zaba (i : Nat) : eget [] i = undef := by simp [eget]
theorem zaah : ∀ (e : Env) (i j : Nat) (v : Value), eget (eset e i v) j = if j = i then v else eget e j
 | [], 0, 0, v => by simp [eset, zaaq]
 | [], 0, j + 1, v => by simp [eset, zaap, zaba]
 | [], i + 1, 0, v => by simp [eset, zaaq, zaba]
 | [], i + 1, j + 1, v => by simp [eset, zaap, zaah [] i j v, zaba]
 | x :: xs, 0, 0, v => by simp [eset, zaaq]
 | x :: xs, 0, j + 1, v => by simp [eset, zaap]
 | x :: xs, i + 1, 0, v => by simp [eset, zaaq]
 | x :: xs, i + 1, j + 1, v => by simp [eset, zaap, zaah xs i j v]
def flat : Nat → Value → Bool
 | _, .bool _ => true
 | _, .int _ _ => true
 | _, .string _ => true
 | _, .pointer none => true
 | _, .map none => true
 | _, .slice none 0 0 => true
 | _, .nilFunc => true
 | _, .nilIface => true
 | n + 1, .agg cs => cs.toList.all fun v => flat n v && v.oneCell'
 | n + 1, .iface _ v => flat n v
 | _, _ => false
def aconst : Value → Value
 | .int k n => .int k n
 | .bool b => .bool b
 | .string s => .string s
 | v => if flat 8 v then v else undef
def NR : Value := .chan (some 0)
def isTup : Value → Bool
 | .tuple _ => true
 | .chan _ => true
 | _ => false
def eput (e : Env) (d : Option Tmp) (v : Value) : Env := match d with | some d => eset e d v | none => e
def aeval (e : Env) : Operand → Value
 | .tmp t => eget e t
 | .const v => aconst v
 | .global _ => undef
 | .func f => .func (.func f) #[] #[]
inductive Blk where
 | dead
 | cells (own : Bool) (elem : TypeId) (c : List Value)
 | map (es : List (Value × Value))
 | iter (s : ByteArray) (pos : Nat)
 | bld (l : List UInt8)
inductive Tr where
 | tip
 | node (v : Blk) (l r : Tr)
def Tr.top : Tr → Blk
 | .tip => .dead
 | .node v _ _ => v
def Tr.lt : Tr → Tr
 | .tip => .tip
 | .node _ l _ => l
def Tr.rt : Tr → Tr
 | .tip => .tip
 | .node _ _ r => r
def Tr.get : Tr → Nat → Blk
 | .tip, _ => .dead
 | .node v l r, i => cond (Nat.beq i 0) v (cond (Nat.beq (i % 2) 1) (l.get (i / 2)) (r.get (i / 2 - 1)))
def Tr.set : Nat → Tr → Nat → Blk → Tr
 | 0, t, _, _ => t
 | n + 1, t, i, b => cond (Nat.beq i 0) (.node b t.lt t.rt) (cond (Nat.beq (i % 2) 1) (.node t.top (Tr.set n t.lt (i / 2) b) t.rt) (.node t.top t.lt (Tr.set n t.rt (i / 2 - 1) b)))
theorem zakq {α : Type} (a b : Nat) (x y : α) : cond (Nat.beq a b) x y = if a = b then x else y := by
 by_cases h : a = b
 ·subst h
  rw [Nat.beq_refl, if_pos rfl]; rfl
 ·have : Nat.beq a b = false := by
   cases hb : Nat.beq a b
   ·rfl
   ·exact absurd (Nat.eq_of_beq_eq_true hb) h
  rw [this, if_neg h]; rfl
theorem Tr.get_eq (t : Tr) (i : Nat) : t.get i = if i = 0 then t.top else if i % 2 = 1 then t.lt.get (i / 2) else t.rt.get (i / 2 - 1) := by
 cases t with
 | tip =>
  show Blk.dead = _
  split
  ·rfl
  ·split <;> rfl
 | node v l r =>
  show cond (Nat.beq i 0) v (cond (Nat.beq (i % 2) 1) (l.get (i / 2)) (r.get (i / 2 - 1))) = _
  rw [zakq, zakq]
  rfl
theorem Tr.get_set : ∀ (n : Nat) (t : Tr) (i : Nat) (b : Blk) (j : Nat), i < n → (Tr.set n t i b).get j = if j = i then b else t.get j
 | 0, _, _, _, _, h => absurd h (Nat.not_lt_zero _)
 | n + 1, t, i, b, j, h => by
  rw [Tr.set, zakq, zakq, Tr.get_eq t j]
  by_cases h0 : i = 0
  ·subst h0
   rw [if_pos rfl, Tr.get_eq]
   by_cases hj : j = 0
   ·rw [if_pos hj, if_pos hj]; rfl
   ·rw [if_neg hj, if_neg hj, if_neg hj]; rfl
  ·rw [if_neg h0]
   by_cases h1 : i % 2 = 1
   ·rw [if_pos h1, Tr.get_eq]
    by_cases hj : j = 0
    ·rw [if_pos hj, if_pos hj, if_neg (by omega)]; rfl
    ·rw [if_neg hj, if_neg hj]
     by_cases hj1 : j % 2 = 1
     ·rw [if_pos hj1, if_pos hj1]
      show (Tr.set n t.lt (i / 2) b).get (j / 2) = _
      rw [Tr.get_set n t.lt (i / 2) b (j / 2) (by omega)]
      by_cases he : j = i
      ·rw [if_pos he, if_pos (by omega)]
      ·rw [if_neg he, if_neg (by omega)]
     ·rw [if_neg hj1, if_neg hj1, if_neg (by omega)]; rfl
   ·rw [if_neg h1, Tr.get_eq]
    by_cases hj : j = 0
    ·rw [if_pos hj, if_pos hj, if_neg (by omega)]; rfl
    ·rw [if_neg hj, if_neg hj]
     by_cases hj1 : j % 2 = 1
     ·rw [if_pos hj1, if_pos hj1, if_neg (by omega)]; rfl
     ·rw [if_neg hj1, if_neg hj1]
      show (Tr.set n t.rt (i / 2 - 1) b).get (j / 2 - 1) = _
      rw [Tr.get_set n t.rt (i / 2 - 1) b (j / 2 - 1) (by omega)]
      by_cases he : j = i
      ·rw [if_pos he, if_pos (by omega)]
      ·rw [if_neg he, if_neg (by omega)]
structure Hp where
 next : Nat
 log : Tr
def bxT (t : Nat) : Nat := 4 * t + 1
def slT (e : Nat) : Nat := 4 * e + 2
def elT (e : Nat) : Nat := e / 4
theorem elT_bx (t : Nat) : elT (bxT t) = t := by unfold elT bxT; omega
theorem elT_sl (t : Nat) : elT (slT t) = t := by unfold elT slT; omega
theorem bxT_1 (t : Nat) : bxT t % 4 = 1 := by unfold bxT; omega
theorem bxT_2 (t : Nat) : ¬ bxT t % 4 = 2 := by unfold bxT; omega
theorem slT_1 (t : Nat) : ¬ slT t % 4 = 1 := by unfold slT; omega
theorem slT_2 (t : Nat) : slT t % 4 = 2 := by unfold slT; omega
def agT (e0 elem : Nat) (off : Nat) : Nat := if e0 = slT elem ∧ off = 0 then slT elem else 0
def Hp.get (H : Hp) (i : Nat) : Blk := H.log.get i
def Hp.put (H : Hp) (i : Nat) (b : Blk) : Hp := { H with log := Tr.set (i + 1) H.log i b }
def Hp.push (H : Hp) (b : Blk) : Hp := { next := H.next + 1, log := Tr.set (H.next + 1) H.log H.next b }
theorem zaan (H : Hp) (i j : Nat) (b : Blk) : (H.put i b).get j = if j = i then b else H.get j := Tr.get_set _ _ _ _ _ (Nat.lt_succ_self _)
theorem zaab (H : Hp) (j : Nat) (b : Blk) : (H.push b).get j = if j = H.next then b else H.get j := Tr.get_set _ _ _ _ _ (Nat.lt_succ_self _)
theorem zaaf (H : Hp) (i : Nat) (b : Blk) : (H.put i b).next = H.next := _root_.id rfl
theorem zaad (H : Hp) (b : Blk) : (H.push b).next = H.next + 1 := _root_.id rfl
section
variable (P : Program)
def isAggT (t : TypeId) : Bool := match P.underlying t with | some (.struct _) | some (.array _ _) => true | _ => false
def szT (t : TypeId) : Option Nat := (P.info? t).map (·.size)
def zeroT (t : TypeId) : Option Value := (P.info? t).bind (·.zero)
def elemT (t : TypeId) : Option TypeId := match P.underlying t with | some (.slice e) => some e | _ => none
end
def pureRun (P : Program) {α : Type} : Sem α → Option α
 | .pure a => some a
 | .program k => pureRun P (k P)
 | _ => none
mutual
def vbeq : Value → Value → Bool
 | .bool a, .bool b => a == b
 | .int k a, .int l b => decide (k = l) && decide (a = b)
 | .float k a, .float l b => decide (k = l) && decide (a = b)
 | .complex k a c, .complex l b d => decide (k = l) && decide (a = b) && decide (c = d)
 | .string a, .string b => a.data.toList == b.data.toList
 | .pointer a, .pointer b => decide (a = b)
 | .slice a n c, .slice b m d => decide (a = b) && decide (n = m) && decide (c = d)
 | .map a, .map b => decide (a = b)
 | .chan a, .chan b => decide (a = b)
 | .func f x y, .func g z w => decide (f = g) && vbeqA x z && vbeqA y w
 | .nilFunc, .nilFunc => true
 | .iface t v, .iface u w => decide (t = u) && vbeq v w
 | .nilIface, .nilIface => true
 | .agg x, .agg y => vbeqA x y
 | .tuple x, .tuple y => vbeqA x y
 | _, _ => false
termination_by structural x => x
def vbeqA : Array Value → Array Value → Bool
 | ⟨x⟩, ⟨y⟩ => vbeqL x y
termination_by structural x => x
def vbeqL : List Value → List Value → Bool
 | [], [] => true
 | a :: x, b :: y => vbeq a b && vbeqL x y
 | _, _ => false
termination_by structural x => x
end
mutual
theorem zaeq : ∀ v : Value, vbeq v v = true
 | .bool a => by simp [vbeq]
 | .int k a => by simp [vbeq]
 | .float k a => by simp [vbeq]
 | .complex k a c => by simp [vbeq]
 | .string a => by simp [vbeq]
 | .pointer a => by simp [vbeq]
 | .slice a n c => by simp [vbeq]
 | .map a => by simp [vbeq]
 | .chan a => by simp [vbeq]
 | .func f x y => by simp [vbeq, zahl x, zahl y]
 | .nilFunc => by simp [vbeq]
 | .iface t v => by simp [vbeq, zaeq v]
 | .nilIface => by simp [vbeq]
 | .agg x => by simp [vbeq, zahl x]
 | .tuple x => by simp [vbeq, zahl x]
theorem zahl : ∀ v : Array Value, vbeqA v v = true
 | ⟨x⟩ => by simp [vbeqA, zamr x]
theorem zamr : ∀ v : List Value, vbeqL v v = true
 | [] => by simp [vbeqL]
 | a :: x => by simp [vbeqL, zaeq a, zamr x]
end
mutual
theorem zams : ∀ v w : Value, vbeq v w = true → v = w
 | .bool a, w, h => by cases w <;> simp_all [vbeq]
 | .int k a, w, h => by cases w <;> simp_all [vbeq]
 | .float k a, w, h => by cases w <;> simp_all [vbeq]
 | .complex k a c, w, h => by cases w <;> simp_all [vbeq]
 | .string a, w, h => by
  cases w <;> simp_all [vbeq]
  rename_i b
  cases a; cases b; rename_i a b; cases a; cases b; simp_all
 | .pointer a, w, h => by cases w <;> simp_all [vbeq]
 | .slice a n c, w, h => by cases w <;> simp_all [vbeq]
 | .map a, w, h => by cases w <;> simp_all [vbeq]
 | .chan a, w, h => by cases w <;> simp_all [vbeq]
 | .func f x y, w, h => by
  cases w <;> simp [vbeq] at h
  obtain ⟨⟨rfl, h1⟩, h2⟩ := h
  rw [zak5 x _ h1, zak5 y _ h2]
 | .nilFunc, w, h => by cases w <;> simp_all [vbeq]
 | .iface t v, w, h => by
  cases w <;> simp [vbeq] at h
  obtain ⟨rfl, h1⟩ := h
  rw [zams v _ h1]
 | .nilIface, w, h => by cases w <;> simp_all [vbeq]
 | .agg x, w, h => by
  cases w <;> simp [vbeq] at h
  rw [zak5 x _ h]
 | .tuple x, w, h => by
  cases w <;> simp [vbeq] at h
  rw [zak5 x _ h]
theorem zak5 : ∀ v w : Array Value, vbeqA v w = true → v = w
 | ⟨x⟩, ⟨y⟩, h => by
  simp only [vbeqA] at h
  rw [zatx x y h]
theorem zatx : ∀ v w : List Value, vbeqL v w = true → v = w
 | [], w, h => by cases w <;> simp_all [vbeqL]
 | a :: x, w, h => by
  cases w with
  | nil => simp [vbeqL] at h
  | cons b y =>
   simp only [vbeqL, Bool.and_eq_true] at h
   rw [zams a b h.1, zatx x y h.2]
end
section
variable (P : Program)
def cellsAt (H : Hp) (a : Addr) (n : Nat) : Option (List Value) :=
 if n = 0 then some [] else
 match H.get a.block with
 | .cells _ _ c => if a.off + n ≤ c.length ∧ a.spot = none then some ((c.drop a.off).take n) else none
 | _ => none
def cellAt (H : Hp) (a : Addr) : Option Value :=
 match H.get a.block with
 | .cells _ _ c => if a.spot = none then c[a.off]? else none
 | _ => none
def aload (t : TypeId) (v : Value) (H : Hp) : Option Value :=
 match v with
 | .pointer (some a) => match P.underlying t with
  | none => none
  | some _ => if isAggT P t then (szT P t).bind fun n => (cellsAt H a n).map fun c => .agg c.toArray else cellAt H a
 | _ => none
def apart (t : TypeId) (cs : Array Value) (off : Nat) : Option Value :=
 match P.underlying t with
 | none => none
 | some _ => if isAggT P t then (szT P t).bind fun n => if off + n ≤ cs.size then some (.agg (cs.extract off (off + n))) else none else cs[off]?
def afields (t : TypeId) : Option (Array Field) := match P.underlying t with | some (.struct fs) => some fs | _ => none
def onlyFlat : Option Value → Option Value
 | some v => if flat 8 v then some v else none
 | none => none
def place (t : TypeId) (i : Nat) : Option (Nat × Nat) := (afields P t).bind fun fs => (fs[i]?).map fun f => (f.offset, (szT P f.type).getD 0)
def ftype (t : TypeId) (i : Nat) : Option TypeId := (afields P t).bind fun fs => (fs[i]?).map fun f => f.type
def sized (t : TypeId) : Bool := match afields P t with | some fs => fs.all fun f => (szT P f.type).isSome | none => false
def setAll : List Value → Nat → List Value → List Value
 | c, _, [] => c
 | c, i, v :: r => setAll (c.set i v) (i + 1) r
def afill (pl : Nat → Option (Nat × Nat)) : List Value → List (Nat × Value) → Option (List Value)
 | c, [] => some c
 | c, (i, v) :: r => (pl i).bind fun x => if v.cells.size = x.2 ∧ x.1 + x.2 ≤ c.length then afill pl (setAll c x.1 v.cells.toList) r else none
def aeqF (eq : TypeId → Value → Value → Option Bool) (xs ys : Array Value) : List Field → Option Bool
 | [] => some true
 | f :: fs => if f.name = "_" then aeqF eq xs ys fs else
     (apart P f.type xs f.offset).bind fun a => (apart P f.type ys f.offset).bind fun b => (eq f.type a b).bind fun r => if r then aeqF eq xs ys fs else some false
def aeq : Nat → TypeId → Value → Value → Option Bool
 | 0, _, _, _ => none
 | d + 1, t, x, y => match P.underlying t, x, y with
  | some .bool, .bool a, .bool b => some (a == b)
  | some (.int _), .int k a, .int k' b => if k = k' then some (a == b) else none
  | some .string, .string a, .string b => some (a.toList == b.toList)
  | some (.struct fs), .agg xs, .agg ys => if P.stoodInHeld t then none else aeqF P (aeq d) xs ys fs.toList
  | _, _, _ => none
def aggVal : Value → Bool
 | .agg _ => true
 | .bool _ => true
 | _ => false
def abin (op : BinOp) (t : TypeId) (x y : Operand) (a b : Value) : Option Value :=
 if aggVal a && aggVal b && flat 8 a && flat 8 b then
  match op with
  | .eql => if P.eqGuardType P.depth t then none else (aeq P 20 t a b).map fun r => .bool r
  | .neq => if P.eqGuardType P.depth t then none else (aeq P 20 t a b).map fun r => .bool (!r)
  | _ => none
 else if flat 8 a && flat 8 b then onlyFlat (pureRun P (do eqGuard op t x y a b; binOp op t a b))
 else match op, a, b with
  | .eql, .pointer (some _), .pointer none => match P.underlying t with | some (.pointer _) => some (.bool false) | _ => none
  | .neq, .pointer (some _), .pointer none => match P.underlying t with | some (.pointer _) => some (.bool true) | _ => none
  | .eql, .slice (some _) _ _, .slice none 0 0 => match P.underlying t with | some (.slice _) => some (.bool false) | _ => none
  | .neq, .slice (some _) _ _, .slice none 0 0 => match P.underlying t with | some (.slice _) => some (.bool true) | _ => none
  | .eql, .map (some _), .map none => match P.underlying t with | some (.map _ _) => some (.bool false) | _ => none
  | .neq, .map (some _), .map none => match P.underlying t with | some (.map _ _) => some (.bool true) | _ => none
  | .eql, .iface _ _, .nilIface => match P.underlying t with | some (.interface _) => some (.bool false) | _ => none
  | .neq, .iface _ _, .nilIface => match P.underlying t with | some (.interface _) => some (.bool true) | _ => none
  | _, _, _ => none
def bytesOfCells : List Value → Option (List UInt8)
 | [] => some []
 | .int .u8 n :: r => (bytesOfCells r).map (UInt8.ofNat n.toNat :: ·)
 | _ :: _ => none
def aconv (src dst : TypeId) (v : Value) (H : Hp) : Option Value :=
 match P.underlying src, P.underlying dst, v with
 | some (.slice e), some .string, .slice none _ _ => match P.underlying e with | some (.int .u8) => some (.string .empty) | _ => none
 | some (.slice e), some .string, .slice (some a) n sz => match P.underlying e with
  | some (.int .u8) => (cellsAt H a n).bind fun c => (bytesOfCells c).map fun l => .string ⟨l.toArray⟩
  | _ => none
 | some _, some (.slice _), _ => none
 | some _, some _, v => if flat 8 v then onlyFlat (pureRun P (convert src dst v)) else none
 | _, _, _ => none
def abound (o : Option Value) (d : Int) : Option Int := match o with
 | none => some d
 | some (.int _ i) => some i
 | _ => none
def aslice (t : TypeId) (v : Value) (lo hi mx : Option Value) : Option Value :=
 match P.underlying t, v, mx with
 | some .string, .string s, none => (abound hi s.size).bind fun h => (abound lo 0).bind fun l =>
     if 0 ≤ l ∧ l ≤ h ∧ h ≤ s.size then some (.string (s.extract l.toNat h.toNat)) else none
 | some (.slice e), .slice none 0 0, none => (abound hi 0).bind fun h => (abound lo 0).bind fun l =>
     if 0 ≤ l ∧ l ≤ h ∧ h ≤ 0 ∧ (szT P e).isSome then some (.slice none 0 0) else none
 | some (.slice e), .slice (some a) n sz, none => (abound hi n).bind fun h => (abound lo 0).bind fun l =>
     if szT P e = some sz ∧ a.spot = none ∧ 0 ≤ l ∧ l ≤ h ∧ h ≤ n then some (.slice (some ⟨a.block, a.off + l.toNat * sz, none⟩) (h - l).toNat sz) else none
 | _, _, _ => none
def aindexAddr (t : TypeId) (v i : Value) : Option Value :=
 match P.underlying t, v, i with
 | some (.slice e), .slice (some a) n sz, .int _ j =>
  if szT P e = some sz ∧ a.spot = none then (if 0 ≤ j ∧ j < n then some (.pointer (some ⟨a.block, a.off + j.toNat * sz, none⟩)) else none) else none
 | some (.array n e), .pointer (some a), .int _ j =>
  (szT P e).bind fun sz => if a.spot = none then (if 0 ≤ j ∧ j < n then some (.pointer (some ⟨a.block, a.off + j.toNat * sz, none⟩)) else none) else none
 | _, _, _ => none
def aindex (t : TypeId) (v i : Value) : Option Value :=
 match P.underlying t, v, i with
 | some .string, .string s, .int _ j => if 0 ≤ j then (s[j.toNat]?).map fun b => .int .u8 b.toNat else none
 | some (.array n e), .agg cs, .int _ j => if 0 ≤ j ∧ j < n then (szT P e).bind fun sz => apart P e cs (j.toNat * sz) else none
 | _, _, _ => none
def alen (t : TypeId) (v : Value) (H : Hp) : Option Value :=
 match P.underlying t, v with
 | some .string, .string s => some (.int .i64 s.size)
 | some (.slice _), .slice _ n _ => some (.int .i64 n)
 | some (.array n _), _ => some (.int .i64 n)
 | some (.map _ _), .map none => some (.int .i64 0)
 | some (.map _ _), .map (some r) => match H.get r with | .map es => some (.int .i64 es.length) | _ => none
 | _, _ => none
def amin (v u : Value) : Option Value := match v, u with
 | .int k a, .int l b => if k = l then some (.int k (if b < a then b else a)) else none
 | _, _ => none
def amax (v u : Value) : Option Value := match v, u with
 | .int k a, .int l b => if k = l then some (.int k (if a < b then b else a)) else none
 | _, _ => none
def adata (v : Value) : Option Value := match v with
 | .slice none 0 0 => some (.pointer none)
 | .slice (some a) (_ + 1) _ => some (.pointer (some a))
 | _ => none
def keyOk (t : TypeId) (k : Value) : Bool := flat 8 k && !isTup k && Instr.sameBits 10000 k k && (pureRun P (Instr.checkKey true 10000 t k)).isSome && (pureRun P (Instr.checkKey false 10000 t k)).isSome
def keysOk (t : TypeId) (k : Value) (es : List (Value × Value)) : Bool := keyOk P t k && es.all fun e => match aeq P 20 t k e.1 with | some r => r == vbeq k e.1 | none => false
def mget (k : Value) (es : List (Value × Value)) : Option Value := (es.find? fun e => vbeq k e.1).map (·.2)
def mset (k v : Value) (es : List (Value × Value)) : List (Value × Value) := if (mget k es).isSome then es.map fun e => if vbeq k e.1 then (e.1, v) else e else es ++ [(k, v)]
def mdel (k : Value) (es : List (Value × Value)) : List (Value × Value) := es.filter fun e => !vbeq k e.1
def aentries (v : Value) (H : Hp) : Option (List (Value × Value)) := match v with
 | .map none => some []
 | .map (some r) => (match H.get r with | .map es => some es | _ => none)
 | _ => none
def flatZero (t : TypeId) : Option Value := (zeroT P t).bind fun z => if flat 8 z then some z else none
def mlook (t : TypeId) (k : Value) (ok : Bool) (es : List (Value × Value)) : Option Value := match P.underlying t with
 | some (.map kt et) => if keysOk P kt k es then (match mget k es with | some v => some v | none => flatZero P et).map fun v => if ok then .tuple #[v, .bool (mget k es).isSome] else v else none
 | _ => none
def alookup (t : TypeId) (m k : Value) (ok : Bool) (H : Hp) : Option Value := (aentries m H).bind fun es => mlook P t k ok es
def lop (ρ : Operand → Value) (H : Hp) : Op → Option Value
 | .move x => some (ρ x)
 | .assign x => some (ρ x)
 | .pick c a b => match ρ c with | .bool t => some (if t then ρ a else ρ b) | _ => none
 | .build t parts => (zeroT P t).bind fun z =>
     if sized P t && flat 8 z && parts.toList.all (fun p => !isTup (ρ p.2)) then (afill (place P t) z.cells.toList (parts.toList.map fun p => (p.1, ρ p.2))).map fun cs => .agg cs.toArray else none
 | .load t a => aload P t (ρ a) H
 | .nilCheck x => match ρ x with
  | .pointer (some a) => some (.pointer (some a))
  | .func (.func f) a b => some (.func (.func f) a b)
  | _ => none
 | .binOp op t x y _ => abin P op t x y (ρ x) (ρ y)
 | .unOp op _ x => if flat 8 (ρ x) then onlyFlat (pureRun P (Op.unary op (ρ x))) else none
 | .convert src dst x => aconv P src dst (ρ x) H
 | .makeFunc (.func f) first captured => some (.func (.func f) (first.map ρ) (captured.map ρ))
 | .slice t x lo hi mx => aslice P t (ρ x) (lo.map ρ) (hi.map ρ) (mx.map ρ)
 | .fieldAddr t x i => match ρ x with
  | .pointer (some a) => (place P t i).bind fun p => if p.2 ≠ 0 ∧ a.spot = none then some (.pointer (some ⟨a.block, a.off + p.1, none⟩)) else none
  | _ => none
 | .field t x i => match ρ x with
  | .agg cs => (place P t i).bind fun p => (ftype P t i).bind fun u => apart P u cs p.1
  | _ => none
 | .indexAddr t x i => aindexAddr P t (ρ x) (ρ i)
 | .index t x i => aindex P t (ρ x) (ρ i)
 | .lookup t x i ok => alookup P t (ρ x) (ρ i) ok H
 | .extract x i => match ρ x with | .tuple vs => vs[i]? | _ => none
 | .call c => match c.callee, c.argTypes.toList, c.args.toList with
  | .builtin .len, [t], [x] => alen P t (ρ x) H
  | .builtin .min, _, [x, y] => amin (ρ x) (ρ y)
  | .builtin .max, _, [x, y] => amax (ρ x) (ρ y)
  | .builtin .unsafeSliceData, _, [x] => adata (ρ x)
  | _, _, _ => none
 | _ => none
def light : Op → Bool
 | .move _ | .assign _ | .pick .. | .build .. | .load .. | .nilCheck _ | .binOp .. | .unOp .. | .makeFunc .. | .slice .. | .fieldAddr .. | .field .. | .indexAddr .. | .index .. | .lookup .. | .extract .. => true
 | .convert _ dst _ => match P.underlying dst with | some (.slice _) => false | _ => true
 | .call c => match c.callee with | .builtin .len => true | .builtin .min => true | .builtin .max => true | .builtin .unsafeSliceData => true | _ => false
 | _ => false
end
inductive Res where
 | val (v : Value) (H : Hp)
 | enter (f : FuncId) (args : List Value)
section
variable (P : Program)
def astore (t : TypeId) (v x : Value) (H : Hp) : Option Hp :=
 match v with
 | .pointer (some a) => match H.get a.block with
  | .cells true e c => if szT P t = some x.cells.size ∧ isTup x = false ∧ a.off + x.cells.size ≤ c.length ∧ a.spot = none then some (H.put a.block (.cells true e (setAll c a.off x.cells.toList))) else none
  | _ => none
 | _ => none
def acells (size : Nat) (x : Value) (n : Nat) (H : Hp) : Option (List Value) :=
 match x with
 | .slice none _ _ => some []
 | .slice (some a) _ sz => if sz = size then cellsAt H a (n * size) else none
 | .string s => if size = 1 then some ((s.data.toList.take n).map fun b => .int .u8 b.toNat) else none
 | _ => none
def alenOf : Value → Nat
 | .slice _ n _ => n
 | .string s => s.size
 | _ => 0
def takesT (t : TypeId) : Bool := match P.underlying t with
 | some (.slice _) => true
 | some .string => true
 | _ => false
def agrow (elem : TypeId) (inf : TypeInfo) (s : Value) (k : Nat) (new : List Value) (H : Hp) : Option (Value × Hp) :=
 match s with
 | .slice none 0 0 =>
  if k = 0 then some (.slice none 0 0, H) else
  if k * inf.bytes ≤ 140737488355328 ∧ k ≤ 9223372036854775807 ∧ inf.zero.map (·.cells.size) = some inf.size then some (.slice (some ⟨H.next, 0, none⟩) k inf.size, H.push (.cells true (slT elem) new)) else none
 | .slice (some a) n sz =>
  if k = 0 then some (.slice (some a) n sz, H) else
  match H.get a.block with
  | .cells true e0 c =>
   if sz = inf.size ∧ a.spot = none ∧ a.off + n * sz ≤ c.length ∧ (n + k) * inf.bytes ≤ 140737488355328 ∧ n + k ≤ 9223372036854775807 ∧ inf.zero.map (·.cells.size) = some inf.size then
    some (.slice (some ⟨H.next, 0, none⟩) (n + k) sz, (H.put a.block .dead).push (.cells true (agT e0 elem a.off) ((c.drop a.off).take (n * sz) ++ new)))
   else none
  | _ => none
 | _ => none
def aappend (st xt : TypeId) (s x : Value) (H : Hp) : Option (Value × Hp) :=
 match P.underlying st with
 | some (.slice elem) => match P.info? elem with
  | some inf => if takesT P xt then (acells inf.size x (alenOf x) H).bind fun new => agrow elem inf s (alenOf x) new H else none
  | none => none
 | _ => none
def exactBytes : List Value → Option (List UInt8)
 | [] => some []
 | .int .u8 n :: r => if n = ((UInt8.ofNat n.toNat).toNat : Int) then (exactBytes r).map (UInt8.ofNat n.toNat :: ·) else none
 | _ :: _ => none
def austr (pt : TypeId) (p n : Value) (H : Hp) : Option (Value × Hp) := match p, n with
 | .pointer none, .int .i64 0 => some (.string .empty, H)
 | .pointer (some a), .int .i64 n => (match P.underlying pt, H.get a.block with
  | some (.pointer e0), .cells true e c => if e = slT e0 ∧ P.cellsOf e0 = 1 ∧ a.off = 0 ∧ a.spot = none ∧ 0 < n ∧ n.toNat ≤ c.length ∧ n ≤ 9223372036854775807 then
      (exactBytes (c.take n.toNat)).map fun l => (.string ⟨l.toArray⟩, H.put a.block .dead) else none
  | _, _ => none)
 | _, _ => none
def amapSet (t : TypeId) (m k v : Value) (H : Hp) : Option Hp := match P.underlying t, m with
 | some (.map kt _), .map (some r) => (match H.get r with
  | .map es => if isTup v = false ∧ keysOk P kt k es = true then some (H.put r (.map (mset k v es))) else none
  | _ => none)
 | _, _ => none
def amapDel (t : TypeId) (m k : Value) (H : Hp) : Option Hp := match P.underlying t, m with
 | some (.map kt _), .map none => if keysOk P kt k [] then some H else none
 | some (.map kt _), .map (some r) => (match H.get r with
  | .map es => if keysOk P kt k es then some (H.put r (.map (mdel k es))) else none
  | _ => none)
 | _, _ => none
def funcOk (f : FuncId) : Bool := match P.funcs[f]? with
 | some fn => fn.name != "runtime.NumGoroutine" && fn.body.isSome
 | none => false
def hop (ρ : Operand → Value) (H : Hp) : Op → Option Res
 | .alloc t => (zeroT P t).bind fun z => if flat 8 z then some (.val (.pointer (some ⟨H.next, 0, none⟩)) (H.push (.cells true (bxT t) z.cells.toList))) else none
 | .box t x => if isTup (ρ x) then none else some (.val (.pointer (some ⟨H.next, 0, none⟩)) (H.push (.cells true (bxT t) (ρ x).cells.toList)))
 | .buildSlice t len parts => match P.underlying t with
  | some (.slice elem) => match P.info? elem with
   | some inf => inf.zero.bind fun z =>
       if len * inf.size ≤ 16777216 ∧ z.cells.size = inf.size ∧ flat 8 z ∧ parts.toList.all (fun p => !isTup (ρ p.2)) then
        (afill (fun i => some (i * inf.size, inf.size)) (List.replicate len z.cells.toList).flatten (parts.toList.map fun p => (p.1, ρ p.2))).map fun cs =>
         .val (.slice (some ⟨H.next, 0, none⟩) len inf.size) (H.push (.cells true (slT elem) cs))
       else none
   | none => none
  | _ => none
 | .store t a x => (astore P t (ρ a) (ρ x) H).map fun H' => .val undef H'
 | .makeMap t none => (match P.underlying t with | some (.map _ _) => some (.val (.map (some H.next)) (H.push (.map []))) | _ => none)
 | .mapUpdate t m k x => (amapSet P t (ρ m) (ρ k) (ρ x) H).map fun H' => .val undef H'
 | .convert src dst x => match P.underlying src, P.underlying dst, ρ x with
  | some .string, some (.slice e), .string s => match P.underlying e with
   | some (.int .u8) => if szT P e = some 1 then some (.val (.slice (some ⟨H.next, 0, none⟩) s.size 1) (H.push (.cells true (slT e) (s.data.toList.map fun b => .int .u8 b.toNat)))) else none
   | _ => none
  | _, _, _ => none
 | .call c => match c.callee with
  | .builtin .append => match c.argTypes.toList, c.args.toList with
   | [st, xt], [s, x] => (aappend P st xt (ρ s) (ρ x) H).map fun r => .val r.1 r.2
   | _, _ => none
  | .builtin .delete => match c.argTypes.toList, c.args.toList with
   | t :: _, [m, k] => (amapDel P t (ρ m) (ρ k) H).map fun H' => .val (.tuple #[]) H'
   | _, _ => none
  | .builtin .unsafeString => match c.argTypes.toList, c.args.toList with
   | [pt, it], [p, n] => (austr P pt (ρ p) (ρ n) H).map fun r => .val r.1 r.2
   | _, _ => none
  | .value f => match ρ f with
   | .func (.func g) first captured => if funcOk P g then some (.enter g (first.toList ++ c.args.toList.map ρ ++ captured.toList)) else none
   | _ => none
  | _ => none
 | _ => none
def aop (ρ : Operand → Value) (H : Hp) (o : Op) : Option Res :=
 if light P o then (lop P ρ H o).map fun v => .val v H else hop P ρ H o
end
abbrev CallFn := FuncId → List Value → Hp → Option (Value × Hp)
section
variable (P : Program) (K : CallFn)
def asGuard (v : Value) (want : Bool) : Option Bool := match v with
 | .bool b => some (b == want)
 | .chan (some 0) => some false
 | _ => none
def ayielded (ops : Array Oper) (e : Env) (j : Nat) (want : Bool) : Option Bool :=
 ((ops[j]?).bind (·.dst)).bind fun d => asGuard (eget e d) want
def awanted (ops : Array Oper) (o : Oper) (e : Env) : Option Bool :=
 match o.guard with
 | none => some true
 | some (j, want) => ayielded ops e j want
def stepOp (o : Oper) (e : Env) (H : Hp) : Option (Value × Hp) :=
 (aop P (aeval e) H o.op).bind fun
  | .val v H' => some (v, H')
  | .enter f args => K f args H
def stepG (ops : Array Oper) (o : Oper) (e : Env) (H : Hp) : Option (Env × Hp) :=
 (awanted ops o e).bind fun t => if t then (stepOp P K o e H).map fun r => (eput e o.dst r.1, r.2) else some (eput e o.dst NR, H)
def runL (ops : Array Oper) : List Oper → Env → Hp → Option (Env × Hp)
 | [], e, H => some (e, H)
 | o :: rest, e, H => (stepG P K ops o e H).bind fun r => runL ops rest r.1 r.2
def ahead (ops : Array Oper) (i j : Nat) : Bool := ((Region.before ops).getD j 0).testBit i
def heavyAt (ops : Array Oper) (i : Nat) : Bool := match ops[i]? with | some o => !light P o.op | none => false
def hcount (ops : Array Oper) : Nat → Nat
 | 0 => 0
 | i + 1 => hcount ops i + if heavyAt P ops i then 1 else 0
def tmpsOf (ops : Array Oper) (o : Oper) : List Tmp :=
 o.dst.toList ++ (o.op.operands.toList.filterMap fun | .tmp t => some t | _ => none) ++ (match o.guard with | some (j, _) => ((ops[j]?).bind (·.dst)).toList | none => [])
def edgeOk (ops : Array Oper) (j : Nat) (o : Oper) : Bool :=
 (o.after.toList.all fun e => !Region.binds .any e || decide (e.on < j)) &&
 (List.range ops.size).all fun i => !ahead ops i j || o.after.toList.any fun e => Region.binds .any e && (e.on == i || ahead ops i e.on)
def pairOk (ops : Array Oper) (i j : Nat) (x y : Oper) : Bool :=
 (match x.dst with | some d => !(tmpsOf ops y).contains d | none => true) && (match y.dst with | some d => !(tmpsOf ops x).contains d | none => true) && (light P x.op || light P y.op) || ahead ops i j
def drawOk (ops : Array Oper) : Bool :=
 (List.range ops.size).all fun j => match ops[j]? with
  | some y => edgeOk ops j y && (List.range j).all fun i => match ops[i]? with | some x => pairOk P ops i j x y | none => false
  | none => false
def allowed (ops : Array Oper) (k p : Nat) : Bool := (List.range ops.size).all fun h => !heavyAt P ops h || (if hcount P ops h < k then !ahead ops p h else !ahead ops h p)
def readsMem : Op → Bool
 | .load .. => true
 | .lookup .. => true
 | .convert .. => true
 | .call _ => true
 | _ => false
structure Rec where
 i : Nat
 e : Env
 v : Value
def restr (l : List Tmp) (e : Env) : Env := l.foldr (fun t acc => eset acc t (eget e t)) []
def lval (ops : Array Oper) (o : Oper) (e : Env) (H : Hp) : Option Value :=
 (awanted ops o e).bind fun t => if t then lop P (aeval e) H o.op else some NR
def hval (ops : Array Oper) (o : Oper) (e : Env) (H : Hp) : Option (Value × Hp) :=
 (awanted ops o e).bind fun t => if t then stepOp P K o e H else some (NR, H)
def runD (ops : Array Oper) : List Nat → Env → List Hp → List Rec → Option (Env × List Hp × List Rec)
 | [], e, Hs, rs => some (e, Hs, rs)
 | i :: rest, e, Hs, rs => match ops[i]?, Hs with
  | some o, H :: _ =>
   if light P o.op then (lval P ops o (restr (tmpsOf ops o) e) H).bind fun v => runD ops rest (eput e o.dst v) Hs (⟨i, restr (tmpsOf ops o) e, v⟩ :: rs)
   else (hval P K ops o (restr (tmpsOf ops o) e) H).bind fun r => runD ops rest (eput e o.dst r.1) (r.2 :: Hs) rs
  | _, _ => none
def recOk (ops : Array Oper) (Hs : List Hp) (r : Rec) : Bool := match ops[r.i]? with
 | some o => !readsMem o.op || (List.range Hs.length).all fun k => !allowed P ops k r.i || (match Hs[k]? with
  | some H => match lval P ops o r.e H with | some v => vbeq v r.v | none => false
  | none => false)
 | none => false
def freeOp : Op → Bool
 | .alloc _ => true
 | .box .. => true
 | .buildSlice .. => true
 | _ => false
def namesOf (ops : Array Oper) (x y : Oper) : Bool := match x.dst with | some d => (tmpsOf ops y).contains d | none => false
def pairOk2 (ops : Array Oper) (i j : Nat) (x y : Oper) : Bool :=
 ((!namesOf ops x y && !namesOf ops y x && (light P x.op || light P y.op || freeOp x.op || freeOp y.op)) || ahead ops i j) && !(freeOp x.op && light P y.op && namesOf ops x y)
def drawOk2 (ops : Array Oper) : Bool :=
 (List.range ops.size).all fun j => match ops[j]? with
  | some y => edgeOk ops j y && (List.range j).all fun i => match ops[i]? with | some x => pairOk2 P ops i j x y | none => false
  | none => false
def anchAt (ops : Array Oper) (i : Nat) : Bool := match ops[i]? with | some o => !light P o.op && !freeOp o.op | none => false
def allowed2 (ops : Array Oper) (k p : Nat) : Bool := (List.range ops.size).all fun h => !anchAt P ops h || (if hcount P ops h < k then !ahead ops p h else !ahead ops h p)
def recOk2 (ops : Array Oper) (Hs : List Hp) (r : Rec) : Bool := match ops[r.i]? with
 | some o => !readsMem o.op || (List.range Hs.length).all fun k => !allowed2 P ops k r.i || (match Hs[k]? with
  | some H => match lval P ops o r.e H with | some v => vbeq v r.v | none => false
  | none => false)
 | none => false
def nextsOk : List Hp → Bool
 | a :: b :: r => decide (a.next ≤ b.next) && nextsOk (b :: r)
 | _ => true
def runRegion (ops : Array Oper) (draw : Bool) (e : Env) (H : Hp) : Option (Env × Hp) :=
 if draw then
  if drawOk P ops then (runD P K ops (List.range ops.size) e [H] []).bind fun r =>
   if r.2.2.all (recOk P ops r.2.1.reverse) then r.2.1.head?.map fun H' => (r.1, H') else none
  else if drawOk2 P ops then (runD P K ops (List.range ops.size) e [H] []).bind fun r =>
   if nextsOk r.2.1.reverse && r.2.2.all (recOk2 P ops r.2.1.reverse) then r.2.1.head?.map fun H' => (r.1, H') else none
  else none
 else runL P K ops ops.toList e H
inductive Ex where
 | normal
 | exit (id : Nat)
 | ret
def iter (g : Env → Hp → Option (Ex × Env × Hp)) : Nat → Env → Hp → Option (Ex × Env × Hp)
 | 0, _, _ => none
 | n + 1, e, H => (g e H).bind fun r => match r.1 with
  | .normal => iter g n r.2.1 r.2.2
  | _ => some r
def runC (n : Nat) : Code → Env → Hp → Option (Ex × Env × Hp)
 | .skip, e, H => some (.normal, e, H)
 | .region _ ops draw, e, H => (runRegion P K ops draw e H).map fun r => (.normal, r.1, r.2)
 | .seq a b, e, H => (runC n a e H).bind fun r => match r.1 with
  | .normal => runC n b r.2.1 r.2.2
  | _ => some r
 | .cond c a b, e, H => match aeval e c with
  | .bool t => if t then runC n a e H else runC n b e H
  | _ => none
 | .block id c, e, H => (runC n c e H).map fun r => match r.1 with
  | .exit j => if j = id then (.normal, r.2) else r
  | _ => r
 | .loop c, e, H => iter (runC n c) n e H
 | .exit id, e, H => some (.exit id, e, H)
 | .ret, e, H => some (.ret, e, H)
 | _, _, _ => none
end
def dstOk (n : Nat) : Code → Bool
 | .region _ ops _ => ops.toList.all fun o => match o.dst with | some d => decide (d < n) | none => true
 | .seq a b => dstOk n a && dstOk n b
 | .cond _ a b => dstOk n a && dstOk n b
 | .block _ c => dstOk n c
 | .loop c => dstOk n c
 | _ => true
def aresult (P : Program) (e : Env) (H : Hp) : ResultVar → Option Value
 | .tmp t => some (eget e t)
 | .cell a t => aload P t (eget e a) H
def aresults (P : Program) (e : Env) (H : Hp) : List ResultVar → Option (List Value)
 | [] => some []
 | r :: rs => (aresult P e H r).bind fun v => (aresults P e H rs).map fun vs => v :: vs
def ret1 : List Value → Value
 | [v] => v
 | vs => .tuple vs.toArray
def finish (P : Program) (fn : Func) (r : Ex × Env × Hp) : Option (Value × Hp) :=
 match r.1 with
 | .exit _ => none
 | _ => (aresults P r.2.1 r.2.2 fn.results.toList).map fun vs => (ret1 vs, r.2.2)
def run (P : Program) (X : FuncId → Option (List Value → Hp → Option (Value × Hp))) : Nat → CallFn
 | 0, _, _, _ => none
 | n + 1, f, args, H => match X f with
  | some g => g args H
  | none => match P.funcs[f]? with
   | none => none
   | some fn => match fn.body with
    | none => none
    | some c => if dstOk fn.ntmps c ∧ args.length ≤ fn.ntmps then (runC P (run P X n) n c args H).bind (finish P fn) else none
end Go.Proofs.YtliemjbafgnnbaaDoor.Abs
