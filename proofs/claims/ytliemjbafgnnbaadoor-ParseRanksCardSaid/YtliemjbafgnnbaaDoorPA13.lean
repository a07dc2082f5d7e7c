/- Equations by which the plain evaluator is run with names in the place of numbers. -/
import Derived.Test.YtliemjbafgnnbaaDoorPA12
import Derived.IntWalk
set_option maxHeartbeats 0
set_option linter.unusedSimpArgs false
set_option linter.unusedVariables false
namespace Go.Proofs.YtliemjbafgnnbaaDoor.Abs
open Go Go.RowKit
def With {α : Type} (o : Option α) (Q : α → Prop) : Prop := match o with | some a => Q a | none => False
@[congr] theorem With_congr {α : Type} {o o' : Option α} {Q : α → Prop} (h : o = o') : With o Q = With o' Q := by rw [h]
theorem zaag {α : Type} (a : α) (Q : α → Prop) : With (some a) Q = Q a := _root_.id rfl
inductive Tag {α : Sort 1} (K : α) : Type where
 | mk : Tag K
def Hold {α : Type} (K : α) (t : Tag K := .mk) : α := K
theorem Hold_1 {α β : Type} {K : α → β} {t : Tag K} (a : α) : Hold K t a = K a := _root_.id rfl
theorem Hold_2 {α β γ : Type} {K : α → β → γ} {t : Tag K} (a : α) (b : β) : Hold K t a b = K a b := _root_.id rfl
theorem Hold_3 {α β γ δ : Type} {K : α → β → γ → δ} {t : Tag K} (a : α) (b : β) (c : γ) : Hold K t a b c = K a b c := _root_.id rfl
theorem zaa8 {α : Type} (Q : α → Prop) : With none Q = False := _root_.id rfl
theorem zakh {α β : Type} (o : Option α) (f : α → β) (Q : β → Prop) : With (o.map f) Q = With o fun a => Q (f a) := by cases o <;> rfl
theorem zaa3 {α : Type} (c : Prop) [Decidable c] (a : Option α) (Q : α → Prop) : (With (if c then a else none) Q) = (c ∧ With a Q) := by
 by_cases h : c <;> simp [h, zaa8]
def Step (P : Program) (X : Outer) (ops : Array Oper) (o : Oper) (e : Env) (H : Hp) (K : Value → Hp → Prop) : Prop := match awanted ops o e with
 | none => False
 | some false => K NR H
 | some true => match aop P (aeval e) H o.op with
  | none => False
  | some (.val v H') => K v H'
  | some (.enter f args) => Df P X f args H K
def abuild (P : Program) (t : TypeId) (len : Nat) (parts : List (Nat × Value)) : Option (Nat × TypeId × List Value) := match P.underlying t with
 | some (.slice elem) => match P.info? elem with
  | some inf => inf.zero.bind fun z =>
      if len * inf.size ≤ 16777216 ∧ z.cells.size = inf.size ∧ flat 8 z ∧ parts.all (fun p => !isTup p.2) then
       (afill (fun i => some (i * inf.size, inf.size)) (List.replicate len z.cells.toList).flatten parts).map fun cs => (inf.size, elem, cs)
      else none
  | none => none
 | _ => none
theorem zabh {α β : Type} (o : Option α) (f : α → β) (Q : β → Prop) : With (o.map f) Q = With o (Hold fun a => Q (f a)) := by cases o <;> rfl
theorem zaa2 {α β : Type} (o : Option α) (f : α → Option β) (Q : β → Prop) : With (o.bind f) Q = With o (Hold fun a => With (f a) Q) := by cases o <;> rfl
section
variable {P : Program} {X : Outer} {ops : Array Oper} {rest : List Oper} {e : Env} {H : Hp} {Q : Env → Hp → Prop} {K : Value → Hp → Prop} {d : Tmp} {dd : Option Tmp} {ty : TypeId} {pos : String} {af : Array Edge}
theorem DR_nil : DR P X ops [] e H Q = Q e H := _root_.id rfl
theorem zaq4 (o : Oper) : DR P X ops (o :: rest) e H Q = Step P X ops o e H fun v H' => DR P X ops rest (eput e o.dst v) H' Q := by
 simp only [DR, Step]
 cases awanted ops o e with
 | none => rfl
 | some b =>
  cases b with
  | false => rfl
  | true =>
   cases aop P (aeval e) H o.op with
   | none => rfl
   | some r => cases r <;> rfl
theorem DR_one (op : Op) (g : Option (Nat × Bool)) : DR P X ops (⟨some d, op, ty, pos, af, g⟩ :: rest) e H Q = Step P X ops ⟨some d, op, ty, pos, af, g⟩ e H fun v H' => DR P X ops rest (eset e d v) H' Q := zaq4 _
theorem DR_non (op : Op) (g : Option (Nat × Bool)) : DR P X ops (⟨none, op, ty, pos, af, g⟩ :: rest) e H Q = Step P X ops ⟨none, op, ty, pos, af, g⟩ e H fun v H' => DR P X ops rest e H' Q := zaq4 _
theorem Step_light (o : Op) (hl : light P o = true) : Step P X ops ⟨dd, o, ty, pos, af, none⟩ e H K = With (lop P (aeval e) H o) (Hold fun v => K v H) := by
 simp only [Step, awanted, aop, hl, if_true]
 cases lop P (aeval e) H o <;> rfl
theorem Step_move (x : Operand) : Step P X ops ⟨dd, .move x, ty, pos, af, none⟩ e H K = With (some (aeval e x)) (Hold fun v => K v H) := _root_.id rfl
theorem Step_assign (x : Operand) : Step P X ops ⟨dd, .assign x, ty, pos, af, none⟩ e H K = With (some (aeval e x)) (Hold fun v => K v H) := _root_.id rfl
theorem Step_pick (c a b : Operand) : Step P X ops ⟨dd, .pick c a b, ty, pos, af, none⟩ e H K = With (lop P (aeval e) H (.pick c a b)) (Hold fun v => K v H) := Step_light _ rfl
theorem Step_build (t : TypeId) (ps : Array (Nat × Operand)) : Step P X ops ⟨dd, .build t ps, ty, pos, af, none⟩ e H K = With (lop P (aeval e) H (.build t ps)) (Hold fun v => K v H) := Step_light _ rfl
theorem Step_load (t : TypeId) (a : Operand) : Step P X ops ⟨dd, .load t a, ty, pos, af, none⟩ e H K = With (aload P t (aeval e a) H) (Hold fun v => K v H) := Step_light _ rfl
theorem Step_nilCheck (x : Operand) : Step P X ops ⟨dd, .nilCheck x, ty, pos, af, none⟩ e H K = With (lop P (aeval e) H (.nilCheck x)) (Hold fun v => K v H) := Step_light _ rfl
theorem Step_binOp (o : BinOp) (t u : TypeId) (x y : Operand) : Step P X ops ⟨dd, .binOp o t x y u, ty, pos, af, none⟩ e H K = With (abin P o t x y (aeval e x) (aeval e y)) (Hold fun v => K v H) := Step_light _ rfl
theorem Step_unOp (o : UnOp) (t : TypeId) (x : Operand) : Step P X ops ⟨dd, .unOp o t x, ty, pos, af, none⟩ e H K = With (lop P (aeval e) H (.unOp o t x)) (Hold fun v => K v H) := Step_light _ rfl
theorem Step_makeFunc (f : Go.Fn) (a b : Array Operand) : Step P X ops ⟨dd, .makeFunc f a b, ty, pos, af, none⟩ e H K = With (lop P (aeval e) H (.makeFunc f a b)) (Hold fun v => K v H) := Step_light _ rfl
theorem Step_slice (t : TypeId) (x : Operand) (a b c : Option Operand) : Step P X ops ⟨dd, .slice t x a b c, ty, pos, af, none⟩ e H K = With (aslice P t (aeval e x) (a.map (aeval e)) (b.map (aeval e)) (c.map (aeval e))) (Hold fun v => K v H) := Step_light _ rfl
theorem Step_fieldAddr (t : TypeId) (x : Operand) (i : Nat) : Step P X ops ⟨dd, .fieldAddr t x i, ty, pos, af, none⟩ e H K = With (lop P (aeval e) H (.fieldAddr t x i)) (Hold fun v => K v H) := Step_light _ rfl
theorem Step_field (t : TypeId) (x : Operand) (i : Nat) : Step P X ops ⟨dd, .field t x i, ty, pos, af, none⟩ e H K = With (lop P (aeval e) H (.field t x i)) (Hold fun v => K v H) := Step_light _ rfl
theorem Step_indexAddr (t : TypeId) (x i : Operand) : Step P X ops ⟨dd, .indexAddr t x i, ty, pos, af, none⟩ e H K = With (aindexAddr P t (aeval e x) (aeval e i)) (Hold fun v => K v H) := Step_light _ rfl
theorem Step_index (t : TypeId) (x i : Operand) : Step P X ops ⟨dd, .index t x i, ty, pos, af, none⟩ e H K = With (aindex P t (aeval e x) (aeval e i)) (Hold fun v => K v H) := Step_light _ rfl
theorem Step_extract (x : Operand) (i : Nat) : Step P X ops ⟨dd, .extract x i, ty, pos, af, none⟩ e H K = With (lop P (aeval e) H (.extract x i)) (Hold fun v => K v H) := Step_light _ rfl
theorem Step_len (a : Array Operand) (ts : Array TypeId) : Step P X ops ⟨dd, .call ⟨.builtin .len, a, ts⟩, ty, pos, af, none⟩ e H K = With (lop P (aeval e) H (.call ⟨.builtin .len, a, ts⟩)) (Hold fun v => K v H) := Step_light _ rfl
theorem Step_heavy (o : Op) (hl : light P o = false) : Step P X ops ⟨dd, o, ty, pos, af, none⟩ e H K = With (hop P (aeval e) H o) fun
    | .val v H' => K v H'
    | .enter f args => Df P X f args H K := by
 simp only [Step, awanted, aop, hl, Bool.false_eq_true, if_false]
 cases hop P (aeval e) H o with
 | none => rfl
 | some r => cases r <;> rfl
theorem Step_alloc {t : TypeId} {z : Value} (hz : zeroT P t = some z) (hf : flat 8 z = true) : Step P X ops ⟨dd, .alloc t, ty, pos, af, none⟩ e H K = K (.pointer (some ⟨H.next, 0, none⟩)) (H.push (.cells true (bxT t) z.cells.toList)) := by
 rw [Step_heavy _ rfl]
 simp only [hop, hz, Option.bind_some, hf, if_true]
 rfl
theorem Step_box (t : TypeId) (x : Operand) : Step P X ops ⟨dd, .box t x, ty, pos, af, none⟩ e H K = With (some (aeval e x)) (Hold fun v => isTup v = false ∧ With (some v.cells.toList) (Hold fun c => K (.pointer (some ⟨H.next, 0, none⟩)) (H.push (.cells true (bxT t) c)))) := by
 rw [Step_heavy _ rfl]
 simp only [hop]
 cases h : isTup (aeval e x) <;> simp [zaag, zaa8, Hold, h]
theorem Step_buildSlice (t : TypeId) (n : Nat) (ps : Array (Nat × Operand)) : Step P X ops ⟨dd, .buildSlice t n ps, ty, pos, af, none⟩ e H K = With (abuild P t n (ps.toList.map fun p => (p.1, aeval e p.2))) (Hold fun c => K (.slice (some ⟨H.next, 0, none⟩) n c.1) (H.push (.cells true (slT c.2.1) c.2.2))) := by
 rw [Step_heavy _ rfl]
 simp only [hop, abuild]
 cases h1 : P.underlying t with
 | none => rfl
 | some u =>
  cases u <;> try rfl
  rename_i elem
  cases h2 : P.info? elem with
  | none => simp only [h2]; rfl
  | some inf =>
   simp only [h2]
   cases inf.zero with
   | none => rfl
   | some z =>
    simp only [Option.bind_some, List.all_map, Function.comp_def]
    split
    ·simp only [zakh]
     rfl
    ·rfl
theorem Step_store (t : TypeId) (a x : Operand) : Step P X ops ⟨dd, .store t a x, ty, pos, af, none⟩ e H K = With (astore P t (aeval e a) (aeval e x) H) (Hold fun H' => K undef H') := by
 rw [Step_heavy _ rfl]
 simp only [hop, zakh]
 rfl
theorem Step_append (st xt : TypeId) (s x : Operand) : Step P X ops ⟨dd, .call ⟨.builtin .append, #[s, x], #[st, xt]⟩, ty, pos, af, none⟩ e H K = With (aappend P st xt (aeval e s) (aeval e x) H) (Hold fun r => K r.1 r.2) := by
 rw [Step_heavy _ rfl]
 simp only [hop, zakh]
 rfl
theorem Step_call (f : FuncId) (a : Array Operand) (ts : Array TypeId) (hf : funcOk P f = true) : Step P X ops ⟨dd, .call ⟨.value (.func f), a, ts⟩, ty, pos, af, none⟩ e H K = Df P X f (a.toList.map (aeval e)) H (Hold K) := by
 rw [Step_heavy _ rfl]
 simp only [hop, aeval, hf, if_true, zaag]
 simp
 exact Iff.rfl
theorem Step_guard (op : Op) (j : Nat) (want : Bool) : Step P X ops ⟨dd, op, ty, pos, af, some (j, want)⟩ e H K = With (ayielded ops e j want) (Hold fun b => if b = true then Step P X ops ⟨dd, op, ty, pos, af, none⟩ e H K else K NR H) := by
 simp only [Step, awanted]
 cases ayielded ops e j want with
 | none => rfl
 | some b => cases b <;> rfl
end
section
variable {P : Program} {t : TypeId} {x y : Operand} {k : IntKind} {a b : Int}
theorem zab4 : abin P .eql t x y (.int k a) (.int k b) = some (.bool (a == b)) := by cases k <;> rfl
theorem zaca : abin P .neq t x y (.int k a) (.int k b) = some (.bool (a != b)) := by cases k <;> rfl
theorem zab8 : abin P .lss t x y (.int k a) (.int k b) = some (.bool (decide (a < b))) := by cases k <;> rfl
theorem zab7 : abin P .leq t x y (.int k a) (.int k b) = some (.bool (decide (a ≤ b))) := by cases k <;> rfl
theorem zab6 : abin P .gtr t x y (.int k a) (.int k b) = some (.bool (decide (a > b))) := by cases k <;> rfl
theorem zab5 : abin P .geq t x y (.int k a) (.int k b) = some (.bool (decide (a ≥ b))) := by cases k <;> rfl
theorem zab3 : abin P .add t x y (.int k a) (.int k b) = some (.int k (k.wrap (a + b))) := by cases k <;> rfl
theorem zacb : abin P .sub t x y (.int k a) (.int k b) = some (.int k (k.wrap (a - b))) := by cases k <;> rfl
theorem zab9 : abin P .mul t x y (.int k a) (.int k b) = some (.int k (k.wrap (a * b))) := by cases k <;> rfl
theorem bb_ff : (false == false) = true := _root_.id rfl
theorem bb_ft : (false == true) = false := _root_.id rfl
theorem bb_tf : (true == false) = false := _root_.id rfl
theorem bb_tt : (true == true) = true := _root_.id rfl
theorem zabt {n : Int} (h : -9223372036854775808 ≤ n) (h2 : n ≤ 9223372036854775807) : IntKind.i64.wrap n = n := by
 simp only [IntKind.wrap, IntKind.bits, IntKind.signed]
 simp
 split <;> omega
theorem zanz {p q : Array Value} {r : Bool} (h1 : flat 8 (.agg p) = true) (h2 : flat 8 (.agg q) = true) (hg : P.eqGuardType P.depth t = false) (h : aeq P 20 t (.agg p) (.agg q) = some r) : abin P .neq t x y (.agg p) (.agg q) = some (.bool (!r)) := by
 unfold abin
 rw [if_pos (show (aggVal (.agg p) && aggVal (.agg q) && flat 8 (.agg p) && flat 8 (.agg q)) = true by rw [h1, h2]; rfl)]
 simp [hg, h]
theorem zaki {s r : ByteArray} : abin P .eql t x y (.string s) (.string r) = some (.bool (s.toList == r.toList)) := rfl
theorem zaup {s r : ByteArray} : abin P .neq t x y (.string s) (.string r) = some (.bool (!(s.toList == r.toList))) := rfl
end
end Go.Proofs.YtliemjbafgnnbaaDoor.Abs
