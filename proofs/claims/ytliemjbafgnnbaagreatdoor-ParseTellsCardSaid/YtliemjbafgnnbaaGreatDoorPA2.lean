/- What it means that the machine's memory is as the plain evaluator's heap says. -/
import Derived.Test.YtliemjbafgnnbaaGreatDoorPA1
set_option linter.unnecessarySimpa false
set_option linter.unusedSimpArgs false
set_option linter.unusedVariables false
namespace Go.Proofs.YtliemjbafgnnbaaGreatDoor.Abs
open Go Go.RowKit
structure Emb where
 blk : Nat
 base : Nat
 stop : Nat
abbrev Plan := Nat → Option Emb
def Plan.le (φ ψ : Plan) : Prop := ∀ i m, φ i = some m → ψ i = some m
theorem Plan.le_refl (φ : Plan) : φ.le φ := fun _ _ h => h
theorem Plan.le_trans {φ ψ χ : Plan} (h : φ.le ψ) (k : ψ.le χ) : φ.le χ := fun i m e => k i m (h i m e)
def Plan.set (φ : Plan) (i : Nat) (m : Emb) : Plan := fun j => if j = i then some m else φ j
theorem Plan.set_same (φ : Plan) (i : Nat) (m : Emb) : φ.set i m i = some m := by simp [Plan.set]
theorem Plan.set_other (φ : Plan) {i j : Nat} (m : Emb) (h : j ≠ i) : φ.set i m j = φ j := by simp [Plan.set, h]
theorem Plan.le_set {φ : Plan} {i : Nat} (m : Emb) (h : φ i = none) : φ.le (φ.set i m) := fun j k e => by
 by_cases hj : j = i
 ·subst hj; rw [h] at e; cases e
 ·rw [Plan.set_other φ m hj]; exact e
inductive VR (φ : Plan) : Value → Value → Prop
 | junk (v : Value) : VR φ (.tuple #[]) v
 | nr : VR φ NR undef
 | bool (b : Bool) : VR φ (.bool b) (.bool b)
 | int (k : IntKind) (n : Int) : VR φ (.int k n) (.int k n)
 | string (s : ByteArray) : VR φ (.string s) (.string s)
 | nilFunc : VR φ .nilFunc .nilFunc
 | nilIface : VR φ .nilIface .nilIface
 | ptr0 : VR φ (.pointer none) (.pointer none)
 | ptr (i off : Nat) (m : Emb) : φ i = some m → VR φ (.pointer (some ⟨i, off, none⟩)) (.pointer (some ⟨m.blk, m.base + off, none⟩))
 | slice0 : VR φ (.slice none 0 0) (.slice none 0 0)
 | slice (i off n sz cap : Nat) (m : Emb) : φ i = some m → n ≤ cap → m.base + off + cap * sz = m.stop → VR φ (.slice (some ⟨i, off, none⟩) n sz) (.slice (some ⟨m.blk, m.base + off, none⟩) n cap)
 | sliceE (a b : Addr) (sz : Nat) : VR φ (.slice (some a) 0 sz) (.slice (some b) 0 0)
 | map0 : VR φ (.map none) (.map none)
 | map (i : Nat) (m : Emb) : φ i = some m → VR φ (.map (some i)) (.map (some m.blk))
 | func (f : Fn) (x x' y y' : Array Value) : x.size = x'.size → y.size = y'.size → (∀ i : Nat, VR φ (x.getD i undef) (x'.getD i undef)) → (∀ i : Nat, VR φ (y.getD i undef) (y'.getD i undef)) → VR φ (.func f x y) (.func f x' y')
 | iface (t : TypeId) (v v' : Value) : VR φ v v' → VR φ (.iface t v) (.iface t v')
 | agg (x x' : Array Value) : x.size = x'.size → (∀ v, v ∈ x'.toList → v.oneCell' = true) → (∀ i : Nat, VR φ (x.getD i undef) (x'.getD i undef)) → VR φ (.agg x) (.agg x')
 | tuple (x x' : Array Value) : x.size = x'.size → (∀ i : Nat, VR φ (x.getD i undef) (x'.getD i undef)) → VR φ (.tuple x) (.tuple x')
theorem VR.mono {φ ψ : Plan} (h : φ.le ψ) {v v' : Value} (hv : VR φ v v') : VR ψ v v' := by
 induction hv with
 | junk v => exact .junk v
 | nr => exact .nr
 | bool b => exact .bool b
 | int k n => exact .int k n
 | string s => exact .string s
 | nilFunc => exact .nilFunc
 | nilIface => exact .nilIface
 | ptr0 => exact .ptr0
 | ptr i off m hm => exact .ptr i off m (h _ _ hm)
 | slice0 => exact .slice0
 | slice i off n sz cap m hm h1 h2 => exact .slice i off n sz cap m (h _ _ hm) h1 h2
 | sliceE a b sz => exact .sliceE a b sz
 | map0 => exact .map0
 | map i m hm => exact .map i m (h _ _ hm)
 | func f x x' y y' h1 h2 _ _ h3 h4 => exact .func f x x' y y' h1 h2 h3 h4
 | iface t v v' _ ih => exact .iface t v v' ih
 | agg x x' h1 h2 _ ih => exact .agg x x' h1 h2 ih
 | tuple x x' h1 _ ih => exact .tuple x x' h1 ih
theorem VR.undef (φ : Plan) (v : Value) : VR φ undef v := .junk v
def VRs (φ : Plan) (c c' : List Value) : Prop := c.length = c'.length ∧ ∀ i : Nat, VR φ (c.getD i Go.undef) (c'.getD i Go.undef)
theorem VRs.nil (φ : Plan) : VRs φ [] [] := ⟨rfl, fun i => by simp; exact .undef _ _⟩
theorem VRs.cons {φ : Plan} {v v' : Value} {c c' : List Value} (h : VR φ v v') (k : VRs φ c c') : VRs φ (v :: c) (v' :: c') :=
 ⟨by simp [k.1], fun i => by cases i with
  | zero => simpa using h
  | succ i => have := k.2 i; simpa using this⟩
theorem VRs.head {φ : Plan} {v v' : Value} {c c' : List Value} (h : VRs φ (v :: c) (v' :: c')) : VR φ v v' := by have := h.2 0; simpa using this
theorem VRs.tail {φ : Plan} {v v' : Value} {c c' : List Value} (h : VRs φ (v :: c) (v' :: c')) : VRs φ c c' :=
 ⟨by have := h.1; simpa using this, fun i => by have := h.2 (i + 1); simpa using this⟩
theorem VRs.append {φ : Plan} {a a' b b' : List Value} (h : VRs φ a a') (k : VRs φ b b') : VRs φ (a ++ b) (a' ++ b') := by
 induction a generalizing a' with
 | nil =>
  have : a' = [] := by have := h.1; simpa using this.symm
  subst this; simpa using k
 | cons v a ih =>
  cases a' with
  | nil => have := h.1; simp at this
  | cons v' a' => exact .cons h.head (ih h.tail)
theorem VRs.mono {φ ψ : Plan} (h : φ.le ψ) {c c' : List Value} (k : VRs φ c c') : VRs ψ c c' := ⟨k.1, fun i => (k.2 i).mono h⟩
theorem VRs.get? {φ : Plan} {c c' : List Value} (h : VRs φ c c') {i : Nat} {v : Value} (hv : c[i]? = some v) : ∃ v', c'[i]? = some v' ∧ VR φ v v' := by
 have hi : i < c.length := by
  rcases Nat.lt_or_ge i c.length with h | h
  ·exact h
  ·rw [List.getElem?_eq_none h] at hv; cases hv
 have hi' : i < c'.length := h.1 ▸ hi
 refine ⟨c'[i], by simp [hi'], ?_⟩
 have := h.2 i
 rw [List.getD_eq_getElem?_getD, List.getD_eq_getElem?_getD, hv, List.getElem?_eq_getElem hi'] at this
 simpa using this
theorem VRs.drop {φ : Plan} {c c' : List Value} (h : VRs φ c c') (n : Nat) : VRs φ (c.drop n) (c'.drop n) :=
 ⟨by simp [h.1], fun i => by have := h.2 (n + i); simpa [List.getD_eq_getElem?_getD] using this⟩
theorem VRs.take {φ : Plan} {c c' : List Value} (h : VRs φ c c') (n : Nat) : VRs φ (c.take n) (c'.take n) :=
 ⟨by simp [h.1], fun i => by
  by_cases hi : i < n
  ·have := h.2 i; simpa [List.getD_eq_getElem?_getD, List.getElem?_take, hi] using this
  ·simp [List.getD_eq_getElem?_getD, List.getElem?_take, hi]; exact .undef _ _⟩
theorem VRs.of_forall {φ : Plan} {c c' : List Value} (hl : c.length = c'.length) (h : ∀ (i : Nat) v v', c[i]? = some v → c'[i]? = some v' → VR φ v v') : VRs φ c c' :=
 ⟨hl, fun i => by
  rcases Nat.lt_or_ge i c.length with hi | hi
  ·have hi' : i < c'.length := hl ▸ hi
   have := h i _ _ (List.getElem?_eq_getElem hi) (List.getElem?_eq_getElem hi')
   simpa [List.getD_eq_getElem?_getD, List.getElem?_eq_getElem, hi, hi'] using this
  ·simp [List.getD_eq_getElem?_getD, List.getElem?_eq_none hi]; exact .undef _ _⟩
theorem VRs.of_array {φ : Plan} {x x' : Array Value} (hs : x.size = x'.size) (h : ∀ i : Nat, VR φ (x.getD i Go.undef) (x'.getD i Go.undef)) : VRs φ x.toList x'.toList :=
 ⟨by simpa using hs, fun i => by have := h i; simpa [List.getD_eq_getElem?_getD, Array.getD_eq_getD_getElem?] using this⟩
theorem VRs.to_array {φ : Plan} {x x' : Array Value} (h : VRs φ x.toList x'.toList) : x.size = x'.size ∧ ∀ i : Nat, VR φ (x.getD i Go.undef) (x'.getD i Go.undef) :=
 ⟨by simpa using h.1, fun i => by have := h.2 i; simpa [List.getD_eq_getElem?_getD, Array.getD_eq_getD_getElem?] using this⟩
theorem VR.agg_of {φ : Plan} {x x' : Array Value} (h : VRs φ x.toList x'.toList) (h1 : ∀ v, v ∈ x'.toList → v.oneCell' = true) : VR φ (.agg x) (.agg x') := .agg _ _ h.to_array.1 h1 h.to_array.2
theorem VR.tuple_of {φ : Plan} {x x' : Array Value} (h : VRs φ x.toList x'.toList) : VR φ (.tuple x) (.tuple x') := .tuple _ _ h.to_array.1 h.to_array.2
theorem VRs.eq_of {φ : Plan} {x x' : List Value} (h : VRs φ x x') (hh : ∀ v ∈ x, ∀ v', VR φ v v' → v' = v) : x' = x := by
 induction x generalizing x' with
 | nil => have := h.1; simpa using this.symm
 | cons v x ih =>
  cases x' with
  | nil => have := h.1; simp at this
  | cons v' x' =>
   rw [hh v (by simp) v' h.head, ih h.tail (fun u hu => hh u (by simp [hu]))]
theorem zaju {φ : Plan} : ∀ (n : Nat) (v v' : Value), flat n v = true → VR φ v v' → v' = v := by
 intro n
 induction n with
 | zero => intro v v' hf hv; cases hv <;> simp_all [flat, NR]
 | succ n ih =>
  intro v v' hf hv
  cases hv with
  | agg x x' h1 h0 h2 =>
   have := VRs.of_array h1 h2
   have e := VRs.eq_of this (fun u hu u' hr => ih u u' (by simp only [flat, List.all_eq_true, Bool.and_eq_true] at hf; exact (hf u hu).1) hr)
   have : x' = x := by cases x; cases x'; simp_all
   rw [this]
  | iface t v v' h => rw [ih v v' (by simpa [flat] using hf) h]
  | _ => simp_all [flat, NR]
theorem VRs.refl_of {φ : Plan} {x : List Value} (h : ∀ v ∈ x, VR φ v v) : VRs φ x x := by
 induction x with
 | nil => exact .nil φ
 | cons v x ih => exact .cons (h v (by simp)) (ih fun u hu => h u (by simp [hu]))
theorem zaed {φ : Plan} : ∀ (n : Nat) (v : Value), flat n v = true → VR φ v v := by
 intro n
 induction n with
 | zero =>
  intro v hf
  cases v with
  | bool b => exact .bool b
  | int k n => exact .int k n
  | string s => exact .string s
  | pointer a => cases a with
   | none => exact .ptr0
   | some a => simp [flat] at hf
  | map a => cases a with
   | none => exact .map0
   | some a => simp [flat] at hf
  | slice a n c => cases a <;> cases n <;> cases c <;> first | exact .slice0 | simp [flat] at hf
  | nilFunc => exact .nilFunc
  | nilIface => exact .nilIface
  | _ => simp_all [flat, NR]
 | succ n ih =>
  intro v hf
  cases v with
  | bool b => exact .bool b
  | int k n => exact .int k n
  | string s => exact .string s
  | pointer a => cases a with
   | none => exact .ptr0
   | some a => simp [flat] at hf
  | map a => cases a with
   | none => exact .map0
   | some a => simp [flat] at hf
  | slice a n c => cases a <;> cases n <;> cases c <;> first | exact .slice0 | simp [flat] at hf
  | nilFunc => exact .nilFunc
  | nilIface => exact .nilIface
  | agg x =>
   simp only [flat, List.all_eq_true, Bool.and_eq_true] at hf
   exact .agg_of (.refl_of fun u hu => ih u (hf u hu).1) fun u hu => (hf u hu).2
  | iface t v => exact .iface t v v (ih v (by simpa [flat] using hf))
  | _ => simp_all [flat, NR]
theorem VR.cells {φ : Plan} {v v' : Value} (h : VR φ v v') (hv : v ≠ .tuple #[]) : VRs φ v.cells.toList v'.cells.toList := by
 cases h with
 | junk v => exact absurd rfl hv
 | nr => exact .cons .nr (.nil φ)
 | agg x x' h1 _ h2 => exact .of_array h1 h2
 | bool b => exact .cons (.bool b) (.nil φ)
 | int k n => exact .cons (.int k n) (.nil φ)
 | string s => exact .cons (.string s) (.nil φ)
 | nilFunc => exact .cons .nilFunc (.nil φ)
 | nilIface => exact .cons .nilIface (.nil φ)
 | ptr0 => exact .cons .ptr0 (.nil φ)
 | ptr i off m hm => exact .cons (.ptr i off m hm) (.nil φ)
 | slice0 => exact .cons .slice0 (.nil φ)
 | slice i off n sz cap m hm h1 h2 => exact .cons (.slice i off n sz cap m hm h1 h2) (.nil φ)
 | sliceE a b sz => exact .cons (.sliceE a b sz) (.nil φ)
 | map0 => exact .cons .map0 (.nil φ)
 | map i m hm => exact .cons (.map i m hm) (.nil φ)
 | func f x x' y y' h1 h2 h3 h4 => exact .cons (.func f x x' y y' h1 h2 h3 h4) (.nil φ)
 | iface t v v' h => exact .cons (.iface t v v' h) (.nil φ)
 | tuple x x' h1 h2 => exact .cons (.tuple x x' h1 h2) (.nil φ)
theorem VR.one {φ : Plan} {v v' : Value} (h : VR φ v v') (hv : isTup v = false) : ∀ u, u ∈ v'.cells.toList → u.oneCell' = true := by
 intro u hu
 cases h with
 | junk v => simp [isTup] at hv
 | nr => simp [isTup, NR] at hv
 | tuple x x' h1 h2 => simp [isTup] at hv
 | agg x x' h1 h0 h2 => exact h0 u hu
 | _ => simp [Value.cells] at hu; subst hu; rfl
def MapRel (φ : Plan) (es : List MapEntry) (es' : Array MapEntry) : Prop :=
 es.length = es'.size ∧ (∀ (i : Nat) (x y : MapEntry), es[i]? = some x → es'[i]? = some y → y.key = x.key ∧ y.born = x.born ∧ VR φ x.val y.val) ∧ ∀ x ∈ es, flat 8 x.key = true
def Bx (own : Bool) (e e' : TypeId) (m : Emb) (sz n : Nat) : Prop := own = true → (e % 4 = 1 → e' = elT e ∧ m.base = 0 ∧ sz = n) ∧ (e % 4 = 2 → e' = elT e ∧ m.base = 0)
def BlkRel (φ : Plan) (B : Nat) (w : World) (p : Option Emb) : Blk → Prop
 | .dead => True
 | .cells own el c => ∃ m cur e fr, p = some m ∧ w.heap[m.blk]? = some (.cells cur e fr) ∧ Bx own el e m cur.size c.length ∧ m.base + c.length ≤ cur.size ∧ VRs φ c ((cur.toList.drop m.base).take c.length) ∧ (∀ u, u ∈ (cur.toList.drop m.base).take c.length → u.oneCell' = true) ∧
     (own = true → B ≤ m.blk ∧ m.stop ≤ cur.size ∧ m.base + c.length ≤ m.stop ∧ ∀ off, off < m.stop → (decide (fr.1 ≤ off) && decide (off < fr.2)) = false)
 | .map es clock => ∃ m es', p = some m ∧ B ≤ m.blk ∧ w.heap[m.blk]? = some (.map es' clock) ∧ MapRel φ es es'
 | .iter s pos => ∃ m, p = some m ∧ B ≤ m.blk ∧ w.heap[m.blk]? = some (.stringIter s pos)
 | .bld _ => False
def foot (B : Nat) : Blk → Emb → List Nat
 | .dead, _ => []
 | .cells false _ _, m => if m.blk < B then [] else [m.blk]
 | _, m => [m.blk]
structure Base where
 w : World
 Z : Nat → Obj → Prop
 Y : Nat → Blk → Prop
def Base.of (w : World) : Base := ⟨w, fun _ _ => False, fun _ _ => False⟩
instance : Coe World Base := ⟨Base.of⟩
structure Rel (B : Nat) (w0 : Base) (φ : Plan) (H : Hp) (w : World) : Prop where
 below : Below B w0.w w
 size : B ≤ w.heap.size
 dom : ∀ i, H.next ≤ i → φ i = none
 blk : ∀ i, (∃ b, w0.Y i b) ∨ BlkRel φ B w (φ i) (H.get i)
 sep : ∀ i j mi mj, i ≠ j → φ i = some mi → φ j = some mj → ∀ k, k ∈ foot B (H.get i) mi → k ∉ foot B (H.get j) mj
 live : ∀ i m, φ i = some m → m.blk < w.heap.size
 kept : ∀ k x, w0.Z k x → w.heap[k]? = some x ∧ ∀ i m, φ i = some m → k ∉ foot B (H.get i) m
 hole : ∀ i b, w0.Y i b → i < H.next ∧ φ i = none ∧ (H.get i = b ∨ H.get i = .dead)
theorem Rel.blkOf {B : Nat} {w0 : Base} {φ : Plan} {H : Hp} {w : World} (h : Rel B w0 φ H w) {i : Nat} {m : Emb} (hm : φ i = some m) : BlkRel φ B w (φ i) (H.get i) := by
 rcases h.blk i with ⟨b, hb⟩ | h'
 ·have := (h.hole i b hb).2.1
  rw [hm] at this; cases this
 ·exact h'
theorem MapRel.mono {φ ψ : Plan} (h : φ.le ψ) {es : List MapEntry} {es' : Array MapEntry} (k : MapRel φ es es') : MapRel ψ es es' :=
 ⟨k.1, fun i x y hx hy => let ⟨a, b, c⟩ := k.2.1 i x y hx hy; ⟨a, b, c.mono h⟩, k.2.2⟩
theorem BlkRel.keep {φ ψ : Plan} {B : Nat} {w w' : World} {p : Option Emb} {b : Blk} (h : BlkRel φ B w p b) (hφ : φ.le ψ)
    (hlow : ∀ k, k < B → w'.heap[k]? = w.heap[k]?) (hk : ∀ m, p = some m → ∀ k, k ∈ foot B b m → w'.heap[k]? = w.heap[k]?) : BlkRel ψ B w' p b := by
 cases b with
 | dead => trivial
 | cells own e c =>
  obtain ⟨m, cur, e', fr, hp, hh, hbx, h1, h2, h2', h3⟩ := h
  refine ⟨m, cur, e', fr, hp, ?_, hbx, h1, h2.mono hφ, h2', h3⟩
  cases own with
  | true => rw [hk m hp m.blk (by simp [foot])]; exact hh
  | false =>
   by_cases hb : m.blk < B
   ·rw [hlow _ hb]; exact hh
   ·rw [hk m hp m.blk (by simp [foot, hb])]; exact hh
 | map es clock =>
  obtain ⟨m, es', hp, hB, hh, hr⟩ := h
  exact ⟨m, es', hp, hB, by rw [hk m hp m.blk (by simp [foot])]; exact hh, hr.mono hφ⟩
 | iter s pos =>
  obtain ⟨m, hp, hB, hh⟩ := h
  exact ⟨m, hp, hB, by rw [hk m hp m.blk (by simp [foot])]; exact hh⟩
 | bld l => exact h
theorem zazr {B : Nat} {w : World} {φ : Plan} {p : Option Emb} {b : Blk} {m : Emb} (h : BlkRel φ B w p b) (hp : p = some m) : ∀ k, k ∈ foot B b m → B ≤ k ∧ k = m.blk := by
 intro k hk
 cases b with
 | dead => simp [foot] at hk
 | cells own e c =>
  obtain ⟨m', cur, e', fr, hp', _, _, _, _, _, h3⟩ := h
  have : m' = m := by rw [hp'] at hp; exact Option.some.inj hp
  subst this
  cases own with
  | true => simp [foot] at hk; subst hk; exact ⟨(h3 rfl).1, rfl⟩
  | false =>
   simp only [foot] at hk
   split at hk
   ·simp at hk
   ·simp at hk; subst hk; exact ⟨by omega, rfl⟩
 | map es clock =>
  obtain ⟨m', es', hp', hB, _⟩ := h
  have : m' = m := by rw [hp'] at hp; exact Option.some.inj hp
  subst this
  simp [foot] at hk; subst hk; exact ⟨hB, rfl⟩
 | iter s pos =>
  obtain ⟨m', hp', hB, _⟩ := h
  have : m' = m := by rw [hp'] at hp; exact Option.some.inj hp
  subst this
  simp [foot] at hk; subst hk; exact ⟨hB, rfl⟩
 | bld l => exact h.elim
theorem Rel.change {B : Nat} {w0 : Base} {φ ψ : Plan} {H H' : Hp} {w w' : World} (h : Rel B w0 φ H w) (hφ : φ.le ψ) (hb : Below B w0.w w') (hsize : w.heap.size ≤ w'.heap.size)
    (hd : ∀ i, H'.next ≤ i → ψ i = none) (i : Nat)
    (hother : ∀ j, j ≠ i → ψ j = φ j ∧ (H'.get j = .dead ∨ (H'.get j = H.get j ∧ ∀ m, φ j = some m → ∀ k, k ∈ foot B (H.get j) m → w'.heap[k]? = w.heap[k]?)))
    (hi : BlkRel ψ B w' (ψ i) (H'.get i))
    (hl : ∀ m, ψ i = some m → m.blk < w'.heap.size)
    (hs : ∀ j m mi, j ≠ i → φ j = some m → ψ i = some mi → H'.get j = H.get j → ∀ k, k ∈ foot B (H.get j) m → k ∉ foot B (H'.get i) mi)
    (hn : H.next ≤ H'.next) (hz : ∀ k x, w0.Z k x → w'.heap[k]? = w.heap[k]? ∧ ∀ m, ψ i = some m → k ∉ foot B (H'.get i) m)
    (hy : ∀ b, w0.Y i b → ψ i = none ∧ (H'.get i = H.get i ∨ H'.get i = .dead)) : Rel B w0 ψ H' w' := by
 have hlow : ∀ k, k < B → w'.heap[k]? = w.heap[k]? := fun k hk => by rw [hb.block k hk, h.below.block k hk]
 refine ⟨hb, Nat.le_trans h.size hsize, hd, fun j => ?_, fun a b ma mb hab ha hbm k hka => ?_, fun j m hj => ?_, fun k x hk => ⟨by rw [(hz k x hk).1, (h.kept k x hk).1], fun j m hj => ?_⟩, fun j b hjb => ?_⟩
 ·by_cases hj : j = i
  ·subst hj; exact .inr hi
  ·obtain ⟨e1, e2⟩ := hother j hj
   rcases e2 with e2 | ⟨e2, e3⟩
   ·right; rw [e2]; trivial
   ·rcases h.blk j with hY | hB
    ·exact .inl hY
    ·right
     rw [e1, e2]; exact hB.keep hφ hlow (fun m hm => e3 m hm)
 ·by_cases ha' : a = i
  ·subst ha'
   have hbne : b ≠ a := fun e => hab e.symm
   obtain ⟨e1, e2⟩ := hother b hbne
   rcases e2 with e2 | ⟨e2, e3⟩
   ·rw [e2]; simp [foot]
   ·rw [e2]
    intro hkb
    exact hs b mb ma hbne (e1 ▸ hbm) ha e2 k hkb hka
  ·obtain ⟨e1, e2⟩ := hother a ha'
   rcases e2 with e2 | ⟨e2, e3⟩
   ·rw [e2] at hka; simp [foot] at hka
   ·rw [e2] at hka
    by_cases hb' : b = i
    ·subst hb'
     exact hs a ma mb ha' (e1 ▸ ha) hbm e2 k hka
    ·obtain ⟨f1, f2⟩ := hother b hb'
     rcases f2 with f2 | ⟨f2, f3⟩
     ·rw [f2]; simp [foot]
     ·rw [f2]
      exact h.sep a b ma mb hab (e1 ▸ ha) (f1 ▸ hbm) k hka
 ·by_cases hj' : j = i
  ·subst hj'; exact hl m hj
  ·rw [(hother j hj').1] at hj
   exact Nat.lt_of_lt_of_le (h.live j m hj) hsize
 ·by_cases hj' : j = i
  ·subst hj'; exact (hz k x hk).2 m hj
  ·obtain ⟨e1, e2⟩ := hother j hj'
   rcases e2 with e2 | ⟨e2, _⟩
   ·rw [e2]; simp [foot]
   ·rw [e2]; exact (h.kept k x hk).2 j m (e1 ▸ hj)
 ·obtain ⟨g1, g2, g3⟩ := h.hole j b hjb
  refine ⟨by omega, ?_⟩
  by_cases hj' : j = i
  ·subst hj'
   obtain ⟨k1, k2⟩ := hy b hjb
   refine ⟨k1, ?_⟩
   rcases k2 with k2 | k2
   ·rw [k2]; exact g3
   ·exact .inr k2
  ·obtain ⟨e1, e2⟩ := hother j hj'
   refine ⟨by rw [e1]; exact g2, ?_⟩
   rcases e2 with e2 | ⟨e2, _⟩
   ·exact .inr e2
   ·rw [e2]; exact g3
end Go.Proofs.YtliemjbafgnnbaaGreatDoor.Abs
