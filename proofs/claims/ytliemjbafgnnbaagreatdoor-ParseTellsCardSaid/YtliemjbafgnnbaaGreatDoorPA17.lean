/- Slices in the plain heap: what is read of them, what an append leaves. -/
import Derived.Test.YtliemjbafgnnbaaGreatDoorPA16
set_option linter.unnecessarySimpa false
set_option linter.unusedSimpArgs false
set_option linter.unusedVariables false
namespace Go.Proofs.YtliemjbafgnnbaaGreatDoor.Abs
open Go Go.RowKit
section
variable {P : Program} {X : Outer} {ops : Array Oper} {e : Env} {H : Hp}
def AllMet (P : Program) (ops : Array Oper) (Hs : List Hp) : List Obl → Prop
 | [] => True
 | b :: l => MetK b b.ks ∧ AllMet P ops Hs l
where MetK (b : Obl) : List Nat → Prop
 | [] => True
 | k :: ks => (With (Hs[k]?) fun H => lval P ops b.o b.e H = some b.v) ∧ MetK b ks
theorem zaqj (Hs : List Hp) (b : Obl) : ∀ ks, AllMet.MetK P ops Hs b ks → ∀ k ∈ ks, With (Hs[k]?) fun H => lval P ops b.o b.e H = some b.v
 | [], _ => fun k hk => by cases hk
 | x :: ks, h => fun k hk => by
  rcases List.mem_cons.1 hk with rfl | hk
  ·exact h.1
  ·exact zaqj Hs b ks h.2 k hk
theorem zak0 (Hs : List Hp) : ∀ ob, AllMet P ops Hs ob → ∀ b ∈ ob, Met P ops Hs b
 | [], _ => fun b hb => by cases hb
 | x :: l, h => fun b hb => by
  rcases List.mem_cons.1 hb with rfl | hb
  ·exact zaqj Hs _ _ h.1
  ·exact zak0 Hs l h.2 b hb
theorem zazw (Hs : List Hp) : AllMet P ops Hs [] = True := _root_.id rfl
theorem zauy (Hs : List Hp) (b : Obl) (l : List Obl) : AllMet P ops Hs (b :: l) = (AllMet.MetK P ops Hs b b.ks ∧ AllMet P ops Hs l) := _root_.id rfl
theorem zaux (Hs : List Hp) (b : Obl) : AllMet.MetK P ops Hs b [] = True := _root_.id rfl
theorem zaqi (Hs : List Hp) (b : Obl) (k : Nat) (ks : List Nat) : AllMet.MetK P ops Hs b (k :: ks) = ((With (Hs[k]?) fun H => lval P ops b.o b.e H = some b.v) ∧ AllMet.MetK P ops Hs b ks) := _root_.id rfl
def DF (P : Program) (X : Outer) (ops : Array Oper) : List (List Nat) → List Oper → Env → Hp → List Hp → List Obl → (Env → Hp → Prop) → Prop
 | t :: T, o :: rest, e, H, Hs, ob, Q => Step P X ops o e H fun v H' =>
     if light P o.op then DF P X ops T rest (eput e o.dst v) H Hs (if t = [] then ob else ⟨t, e, o, v⟩ :: ob) Q
     else DF P X ops T rest (eput e o.dst v) H' (H :: Hs) ob Q
 | _, [], e, H, Hs, ob, Q => AllMet P ops (H :: Hs).reverse ob ∧ Q e H
 | [], _ :: _, _, _, _, _, _ => False
theorem Step_mono {o : Oper} {K K' : Value → Hp → Prop} (h : ∀ v H', K v H' → K' v H') (hs : Step P X ops o e H K) : Step P X ops o e H K' := by
 simp only [Step] at hs ⊢
 split at hs
 ·exact hs.elim
 ·exact h _ _ hs
 ·split at hs
  ·exact hs.elim
  ·exact h _ _ hs
  ·exact hs.mono h
theorem DF_DE : ∀ (l : List Oper) (T : List (List Nat)) (e : Env) (H : Hp) (Hs : List Hp) (ob : List Obl) (Q : Env → Hp → Prop), DF P X ops T l e H Hs ob Q → DE P X ops T l e H Hs ob Q
 | [], T, e, H, Hs, ob, Q, h => by
  cases T <;> exact ⟨zak0 _ _ h.1, h.2⟩
 | o :: rest, [], e, H, Hs, ob, Q, h => h.elim
 | o :: rest, t :: T, e, H, Hs, ob, Q, h => by
  refine Step_mono ?_ h
  intro v H' h
  split at h
  ·rename_i hl; simp only [hl, if_true]; exact DF_DE rest T _ _ _ _ Q h
  ·rename_i hl; simp only [hl, if_false]; exact DF_DE rest T _ _ _ _ Q h
theorem DF_one (t : List Nat) (T : List (List Nat)) (op : Op) (ty : TypeId) (pos : String) (af : Array Edge) (g : Option (Nat × Bool)) (d : Tmp) (rest : List Oper) (Hs : List Hp) (ob : List Obl) (Q : Env → Hp → Prop) : DF P X ops (t :: T) (⟨some d, op, ty, pos, af, g⟩ :: rest) e H Hs ob Q = Step P X ops ⟨some d, op, ty, pos, af, g⟩ e H fun v H' =>
      if light P op = true then DF P X ops T rest (eset e d v) H Hs (if t = [] then ob else ⟨t, e, ⟨some d, op, ty, pos, af, g⟩, v⟩ :: ob) Q
      else DF P X ops T rest (eset e d v) H' (H :: Hs) ob Q := rfl
theorem DF_non (t : List Nat) (T : List (List Nat)) (op : Op) (ty : TypeId) (pos : String) (af : Array Edge) (g : Option (Nat × Bool)) (rest : List Oper) (Hs : List Hp) (ob : List Obl) (Q : Env → Hp → Prop) : DF P X ops (t :: T) (⟨none, op, ty, pos, af, g⟩ :: rest) e H Hs ob Q = Step P X ops ⟨none, op, ty, pos, af, g⟩ e H fun v H' =>
      if light P op = true then DF P X ops T rest e H Hs (if t = [] then ob else ⟨t, e, ⟨none, op, ty, pos, af, g⟩, v⟩ :: ob) Q
      else DF P X ops T rest e H' (H :: Hs) ob Q := rfl
theorem zaex (T : List (List Nat)) (op : Op) (ty : TypeId) (pos : String) (af : Array Edge) (g : Option (Nat × Bool)) (d : Tmp) (rest : List Oper) (Hs : List Hp) (ob : List Obl) (Q : Env → Hp → Prop) : DF P X ops ([] :: T) (⟨some d, op, ty, pos, af, g⟩ :: rest) e H Hs ob Q = Step P X ops ⟨some d, op, ty, pos, af, g⟩ e H fun v H' =>
      if light P op = true then DF P X ops T rest (eset e d v) H Hs ob Q
      else DF P X ops T rest (eset e d v) H' (H :: Hs) ob Q := by simp only [DF_one, if_true]
theorem zaey (k : Nat) (ks : List Nat) (T : List (List Nat)) (op : Op) (ty : TypeId) (pos : String) (af : Array Edge) (g : Option (Nat × Bool)) (d : Tmp) (rest : List Oper) (Hs : List Hp) (ob : List Obl) (Q : Env → Hp → Prop) : DF P X ops ((k :: ks) :: T) (⟨some d, op, ty, pos, af, g⟩ :: rest) e H Hs ob Q = Step P X ops ⟨some d, op, ty, pos, af, g⟩ e H fun v H' =>
      if light P op = true then DF P X ops T rest (eset e d v) H Hs (⟨k :: ks, e, ⟨some d, op, ty, pos, af, g⟩, v⟩ :: ob) Q
      else DF P X ops T rest (eset e d v) H' (H :: Hs) ob Q := by simp only [DF_one, reduceCtorEq, if_false]
theorem zaev (T : List (List Nat)) (op : Op) (ty : TypeId) (pos : String) (af : Array Edge) (g : Option (Nat × Bool)) (rest : List Oper) (Hs : List Hp) (ob : List Obl) (Q : Env → Hp → Prop) : DF P X ops ([] :: T) (⟨none, op, ty, pos, af, g⟩ :: rest) e H Hs ob Q = Step P X ops ⟨none, op, ty, pos, af, g⟩ e H fun v H' =>
      if light P op = true then DF P X ops T rest e H Hs ob Q
      else DF P X ops T rest e H' (H :: Hs) ob Q := by simp only [DF_non, if_true]
theorem zaew (k : Nat) (ks : List Nat) (T : List (List Nat)) (op : Op) (ty : TypeId) (pos : String) (af : Array Edge) (g : Option (Nat × Bool)) (rest : List Oper) (Hs : List Hp) (ob : List Obl) (Q : Env → Hp → Prop) : DF P X ops ((k :: ks) :: T) (⟨none, op, ty, pos, af, g⟩ :: rest) e H Hs ob Q = Step P X ops ⟨none, op, ty, pos, af, g⟩ e H fun v H' =>
      if light P op = true then DF P X ops T rest e H Hs (⟨k :: ks, e, ⟨none, op, ty, pos, af, g⟩, v⟩ :: ob) Q
      else DF P X ops T rest e H' (H :: Hs) ob Q := by simp only [DF_non, reduceCtorEq, if_false]
theorem DF_nil (Hs : List Hp) (ob : List Obl) (Q : Env → Hp → Prop) : DF P X ops [] [] e H Hs ob Q = (AllMet P ops (H :: Hs).reverse ob ∧ Q e H) := _root_.id rfl
theorem Dc_any {id : Nat} {Q : Ex → Env → Hp → Prop} (T : List (List Nat)) (hok : drawOk P ops = true) (hT : othersAll P ops = T) (h : DF P X ops T ops.toList e H [] [] fun e' H' => Q .normal e' H') : Dc P X (.region id ops true) e H Q :=
 zazb T hok hT (DF_DE _ _ _ _ _ _ _ h)
theorem zaqd (dd : Option Tmp) (o : Op) (ty : TypeId) (pos : String) (af : Array Edge) : lval P ops ⟨dd, o, ty, pos, af, none⟩ e H = lop P (aeval e) H o := _root_.id rfl
theorem zauu (ρ : Operand → Value) (t : TypeId) (a : Operand) : lop P ρ H (.load t a) = aload P t (ρ a) H := _root_.id rfl
theorem zak4 (ρ : Operand → Value) (s t : TypeId) (a : Operand) : lop P ρ H (.convert s t a) = aconv P s t (ρ a) H := _root_.id rfl
def dstAt : List Oper → Nat → Option Tmp
 | [], _ => none
 | o :: _, 0 => o.dst
 | _ :: l, n + 1 => dstAt l n
theorem zat8 : ∀ (l : List Oper) (n : Nat), dstAt l n = (l[n]?).bind (·.dst)
 | [], n => by simp [dstAt]
 | o :: l, 0 => by simp [dstAt]
 | o :: l, n + 1 => by simp [dstAt, zat8 l n]
theorem zabq (o : Oper) (l : List Oper) : dstAt (o :: l) 0 = o.dst := _root_.id rfl
theorem zabp (o : Oper) (l : List Oper) (n : Nat) : dstAt (o :: l) (n + 1) = dstAt l n := _root_.id rfl
theorem zaa1 (b w : Bool) : asGuard (.bool b) w = some (b == w) := _root_.id rfl
theorem zabo (w : Bool) : asGuard NR w = some false := _root_.id rfl
theorem zaa8 {j : Nat} {want : Bool} (l : List Oper) : ayielded l.toArray e j want = (dstAt l j).bind fun d => asGuard (eget e d) want := by
 simp only [ayielded, List.getElem?_toArray, zat8]
theorem zad2 (k : IntKind) (n : Int) : isTup (.int k n) = false := _root_.id rfl
theorem zaeg (k : IntKind) (n : Int) : Value.cells (.int k n) = #[.int k n] := _root_.id rfl
theorem zac8 (b : Bool) : isTup (.bool b) = false := _root_.id rfl
theorem zac0 (b : Bool) : Value.cells (.bool b) = #[.bool b] := _root_.id rfl
theorem zad3 (s : ByteArray) : isTup (.string s) = false := _root_.id rfl
theorem zaej (s : ByteArray) : Value.cells (.string s) = #[.string s] := _root_.id rfl
theorem zab5 (p : Option Addr) (n c : Nat) : isTup (.slice p n c) = false := _root_.id rfl
theorem zab2 (p : Option Addr) (n c : Nat) : Value.cells (.slice p n c) = #[.slice p n c] := _root_.id rfl
theorem zaes (p : Option Addr) : isTup (.pointer p) = false := _root_.id rfl
theorem zaei (p : Option Addr) : Value.cells (.pointer p) = #[.pointer p] := _root_.id rfl
theorem zada  : isTup (.nilFunc) = false := _root_.id rfl
theorem zac2  : Value.cells (.nilFunc) = #[.nilFunc] := _root_.id rfl
theorem zadb  : isTup (.nilIface) = false := _root_.id rfl
theorem zac3  : Value.cells (.nilIface) = #[.nilIface] := _root_.id rfl
theorem zaer (r : Option Nat) : isTup (.map r) = false := _root_.id rfl
theorem zaeh (r : Option Nat) : Value.cells (.map r) = #[.map r] := _root_.id rfl
theorem zaeq (t : TypeId) (v : Value) : isTup (.iface t v) = false := _root_.id rfl
theorem zaef (t : TypeId) (v : Value) : Value.cells (.iface t v) = #[.iface t v] := _root_.id rfl
theorem zac9 (f : Fn) (a b : Array Value) : isTup (.func f a b) = false := _root_.id rfl
theorem zac1 (f : Fn) (a b : Array Value) : Value.cells (.func f a b) = #[.func f a b] := _root_.id rfl
theorem zaep (c : Array Value) : isTup (.agg c) = false := _root_.id rfl
theorem zaee (c : Array Value) : Value.cells (.agg c) = c := _root_.id rfl
def blkOf : Value → Option Nat
 | .slice (some a) _ _ => some a.block
 | _ => none
def SB (o : Bool) (H : Hp) (el : TypeId) (sz : Nat) (v : Value) (ts : List (List Value)) : Prop := ∃ b off c, v = .slice (some ⟨b, off, none⟩) ts.length sz ∧ b < H.next ∧ H.get b = .cells o el c ∧ off + ts.length * sz ≤ c.length ∧ (c.drop off).take (ts.length * sz) = ts.flatten
def Own (H : Hp) (el : TypeId) (sz : Nat) (v : Value) (ts : List (List Value)) : Prop := (∀ t ∈ ts, t.length = sz) ∧ ((v = .slice none 0 0 ∧ ts = []) ∨ ∃ tg, SB true H tg sz v ts)
def RO (H : Hp) (el : TypeId) (sz : Nat) (v : Value) (ts : List (List Value)) : Prop := (∀ t ∈ ts, t.length = sz) ∧ ((ts = [] ∧ (v = .slice none 0 0 ∨ ∃ a, v = .slice (some a) 0 sz)) ∨ ∃ o, SB o H el sz v ts)
theorem SB.frame {o : Bool} {H H' : Hp} {el : TypeId} {sz : Nat} {v : Value} {ts : List (List Value)} (h : SB o H el sz v ts) (hn : H.next ≤ H'.next) (hg : ∀ j, j < H.next → blkOf v = some j → H'.get j = H.get j) : SB o H' el sz v ts := by
 obtain ⟨b, off, c, h1, h2, h3, h4, h5⟩ := h
 exact ⟨b, off, c, h1, by omega, by rw [hg b h2 (by rw [h1]; rfl), h3], h4, h5⟩
theorem Own.frame {H H' : Hp} {el : TypeId} {sz : Nat} {v : Value} {ts : List (List Value)} (h : Own H el sz v ts) (hn : H.next ≤ H'.next) (hg : ∀ j, j < H.next → blkOf v = some j → H'.get j = H.get j) : Own H' el sz v ts :=
 ⟨h.1, h.2.imp id fun ⟨tg, h⟩ => ⟨tg, h.frame hn hg⟩⟩
theorem RO.frame {H H' : Hp} {el : TypeId} {sz : Nat} {v : Value} {ts : List (List Value)} (h : RO H el sz v ts) (hn : H.next ≤ H'.next) (hg : ∀ j, j < H.next → blkOf v = some j → H'.get j = H.get j) : RO H' el sz v ts :=
 ⟨h.1, h.2.imp id fun ⟨o, h⟩ => ⟨o, h.frame hn hg⟩⟩
theorem Own.ro {H : Hp} {el : TypeId} {sz : Nat} {v : Value} {ts : List (List Value)} (h : Own H el sz v ts) : ∃ tg, RO H tg sz v ts := by
 rcases h.2 with ⟨a, b⟩ | ⟨tg, h2⟩
 ·exact ⟨el, h.1, .inl ⟨b, .inl a⟩⟩
 ·exact ⟨tg, h.1, .inr ⟨true, h2⟩⟩
theorem Own.blk {H : Hp} {el : TypeId} {sz : Nat} {v : Value} {ts : List (List Value)} (h : Own H el sz v ts) {j : Nat} (hj : blkOf v = some j) : j < H.next := by
 rcases h.2 with ⟨h, _⟩ | ⟨_, b, off, c, h1, h2, _⟩
 ·rw [h] at hj; cases hj
 ·rw [h1] at hj; cases hj; exact h2
theorem RO.val {H : Hp} {el : TypeId} {sz : Nat} {v : Value} {ts : List (List Value)} (h : RO H el sz v ts) : ∃ p c, v = .slice p ts.length c := by
 rcases h.2 with ⟨h0, h | ⟨a, h⟩⟩ | ⟨o, b, off, c, h, _⟩
 ·exact ⟨none, 0, by rw [h, h0]; rfl⟩
 ·exact ⟨some a, sz, by rw [h, h0]; rfl⟩
 ·exact ⟨_, _, h⟩
theorem zam9 {sz : Nat} : ∀ (ts : List (List Value)), (∀ t ∈ ts, t.length = sz) → ∀ j (hj : j < ts.length), (ts.flatten.drop (j * sz)).take sz = ts[j]
 | [], _, j, hj => by simp at hj
 | t :: ts, h, 0, hj => by
  have : t.length = sz := h t (by simp)
  simp [List.take_append, this, List.take_of_length_le]
 | t :: ts, h, j + 1, hj => by
  have ht : t.length = sz := h t (by simp)
  have := zam9 ts (fun t ht => h t (by simp [ht])) j (by simpa using hj)
  rw [List.flatten_cons, Nat.add_mul, Nat.one_mul, Nat.add_comm, ← List.drop_drop, List.drop_left' ht, this]
  rfl
theorem zafo {sz : Nat} : ∀ (ts : List (List Value)), (∀ t ∈ ts, t.length = sz) → ts.flatten.length = ts.length * sz
 | [], _ => by simp
 | t :: ts, h => by
  have ht : t.length = sz := h t (by simp)
  rw [List.flatten_cons, List.length_append, zafo ts (fun t ht => h t (by simp [ht])), ht, List.length_cons, Nat.add_mul]
  omega
theorem RO.at {H : Hp} {el : TypeId} {sz : Nat} {v : Value} {ts : List (List Value)} (h : RO H el sz v ts) {j : Nat} (hj : j < ts.length) :
    ∃ b off c o, v = .slice (some ⟨b, off, none⟩) ts.length sz ∧ b < H.next ∧ H.get b = .cells o el c ∧ off + j * sz + sz ≤ c.length ∧ (c.drop (off + j * sz)).take sz = ts[j] := by
 rcases h.2 with ⟨h0, _⟩ | ⟨o, b, off, c, h1, h2, h3, h4, h5⟩
 ·subst h0; simp at hj
 ·have hm : j * sz + sz ≤ ts.length * sz := by
   have : (j + 1) * sz ≤ ts.length * sz := Nat.mul_le_mul_right _ hj
   rwa [Nat.add_mul, Nat.one_mul] at this
  refine ⟨b, off, c, o, h1, h2, h3, by omega, ?_⟩
  rw [← zam9 ts h.1 j hj, ← h5, ← List.drop_drop]
  generalize c.drop off = l
  rw [List.drop_take, List.take_take, Nat.min_eq_left (by omega)]
theorem zaxf {H : Hp} {b q sz : Nat} {o : Bool} {el : TypeId} {c t : List Value} (hg : H.get b = .cells o el c) (ht : (c.drop q).take sz = t) (fo : Nat) (hn : fo < sz) :
    cellAt H ⟨b, q + fo, none⟩ = t[fo]? := by
 simp only [cellAt, hg, if_true]
 rw [← ht, List.getElem?_take, if_pos hn, List.getElem?_drop]
theorem Own.append {H : Hp} {el : TypeId} {sz bytes : Nat} {v : Value} {ts news : List (List Value)} (h : Own H el sz v ts) (hn : ∀ t ∈ news, t.length = sz) (h0 : news ≠ []) (hb : (ts.length + news.length) * bytes ≤ 140737488355328) (hm : ts.length + news.length ≤ 9223372036854775807) :
    ∃ H', agrow2 el sz bytes v news.length news.flatten H = some (.slice (some ⟨H.next, 0, none⟩) (ts.length + news.length) sz, H') ∧ Own H' el sz (.slice (some ⟨H.next, 0, none⟩) (ts.length + news.length) sz) (ts ++ news) ∧
     H'.next = H.next + 1 ∧ ∀ j, j < H.next → blkOf v ≠ some j → H'.get j = H.get j := by
 have hk : news.length ≠ 0 := by simpa using h0
 have hall : ∀ t ∈ ts ++ news, t.length = sz := fun t ht => (List.mem_append.1 ht).elim (h.1 t) (hn t)
 rcases h.2 with ⟨rfl, rfl⟩ | ⟨tg, b, off, c, rfl, h2, h3, h4, h5⟩
 ·refine ⟨H.push (.cells true (slT el) news.flatten), ?_, ⟨hall, .inr ⟨_, H.next, 0, news.flatten, by simp, by rw [zaam]; omega, by rw [zaaj, if_pos rfl], by simp [zafo news hn], by rw [List.nil_append, List.drop_zero, List.take_of_length_le (by rw [zafo news hn]; exact Nat.le_refl _)]⟩⟩, zaam _ _, fun j hj _ => by rw [zaaj, if_neg (by omega)]⟩
  simp only [agrow2, hk, if_false]
  rw [if_pos ⟨by simpa using hb, by simpa using hm⟩]
  simp
 ·have hlf := zafo _ hall
  refine ⟨(H.put b .dead).push (.cells true (agT tg el off) (ts.flatten ++ news.flatten)), ?_, ⟨hall, .inr ⟨_, H.next, 0, ts.flatten ++ news.flatten, by simp, by rw [zaam, zaau]; omega, by rw [zaaj, zaau, if_pos rfl], ?_, ?_⟩⟩, by rw [zaam, zaau], fun j hj hne => ?_⟩
  ·simp only [agrow2, hk, if_false, h3, h5]
   rw [if_pos ⟨trivial, trivial, h4, hb, hm⟩]
  ·rw [← List.flatten_append, hlf, Nat.zero_add]; exact Nat.le_refl _
  ·rw [List.drop_zero, ← List.flatten_append, List.take_of_length_le (by rw [hlf]; exact Nat.le_refl _)]
  ·rw [zaaj, zaau, if_neg (by omega), zaba, if_neg]
   intro hjb
   subst hjb
   exact hne rfl
theorem zabd {x c : List Value} (h : x.length = c.length) : setAll c 0 x = x := by
 rw [zaml x c 0 (by omega), List.drop_of_length_le (by omega)]
 simp
theorem zabr {x v : Value} : setAll [x] 0 [v] = [v] := _root_.id rfl
theorem zac4 {sz : Nat} {z : List Value} {x : Value} (hz : z.length = sz) (hx : x.cells.size = sz) : afill (fun i => some (i * sz, sz)) (List.replicate 1 z).flatten [(0, x)] = some x.cells.toList := by
 have h1 : (List.replicate 1 z).flatten = z := by simp
 rw [h1]
 simp only [afill, Option.bind_some, Nat.zero_mul, hx, Nat.zero_add, hz]
 rw [if_pos ⟨trivial, Nat.le_refl _⟩, zabd (by simp [hx, hz])]
theorem SB.cells {o : Bool} {H : Hp} {el : TypeId} {sz : Nat} {v : Value} {ts : List (List Value)} (h : SB o H el sz v ts) : ∃ b off, v = .slice (some ⟨b, off, none⟩) ts.length sz ∧ cellsAt H ⟨b, off, none⟩ (ts.length * sz) = some ts.flatten := by
 obtain ⟨b, off, c, h1, h2, h3, h4, h5⟩ := h
 refine ⟨b, off, h1, ?_⟩
 unfold cellsAt
 split
 ·rename_i h0
  rw [h0] at h5
  rw [← h5]
  simp
 ·simp only [h3, and_true]
  rw [if_pos h4, h5]
theorem SB.drop {o : Bool} {H : Hp} {el : TypeId} {sz : Nat} {v : Value} {ts : List (List Value)} (h : SB o H el sz v ts) (hs : ∀ t ∈ ts, t.length = sz) (k : Nat) (hk : k ≤ ts.length) :
    ∃ b off, v = .slice (some ⟨b, off, none⟩) ts.length sz ∧ SB o H el sz (.slice (some ⟨b, off + k * sz, none⟩) (ts.length - k) sz) (ts.drop k) := by
 obtain ⟨b, off, c, h1, h2, h3, h4, h5⟩ := h
 have hm : k * sz + (ts.length - k) * sz = ts.length * sz := by rw [← Nat.add_mul]; congr 1; omega
 refine ⟨b, off, h1, b, off + k * sz, c, by rw [List.length_drop], h2, h3, by rw [List.length_drop]; omega, ?_⟩
 have : ts.flatten.drop (k * sz) = (ts.drop k).flatten := by
  have e : ts = ts.take k ++ ts.drop k := (List.take_append_drop k ts).symm
  have hl : (ts.take k).flatten.length = k * sz := by
   rw [zafo _ (fun t ht => hs t (List.mem_of_mem_take ht)), List.length_take, Nat.min_eq_left hk]
  conv => lhs; rw [e, List.flatten_append]
  rw [List.drop_left' hl]
 rw [← this, ← h5, List.length_drop, List.drop_take, ← List.drop_drop]
 congr 1
 omega
end
end Go.Proofs.YtliemjbafgnnbaaGreatDoor.Abs
