/- Equations by kind of type, to be set down for each type of a program. -/
import Derived.Test.YtliemjbafgnnbaaDoorPA14
set_option maxHeartbeats 0
set_option linter.unnecessarySimpa false
set_option linter.unusedSimpArgs false
set_option linter.unusedVariables false
namespace Go.Proofs.YtliemjbafgnnbaaDoor.Abs
open Go Go.RowKit
section
variable {P : Program} {t e : TypeId} {n sz : Nat} {H : Hp} {ρ : Operand → Value}
def knownT (P : Program) (t : TypeId) : Bool := (P.underlying t).isSome
theorem zarg (h : isAggT P t = false) (hk : knownT P t = true) (a : Addr) : aload P t (.pointer (some a)) H = cellAt H a := by
 unfold aload
 cases hu : P.underlying t with
 | none => simp [knownT, hu] at hk
 | some d => simp [h]
theorem zaus (h : isAggT P t = true) (hs : szT P t = some n) (cs : Array Value) (off : Nat) : apart P t cs off = if off + n ≤ cs.size then some (.agg (cs.extract off (off + n))) else none := by
 unfold apart
 cases hu : P.underlying t with
 | none => simp [isAggT, hu] at h
 | some d => simp [h, hs]
theorem zarh (h : isAggT P t = false) (hk : knownT P t = true) (cs : Array Value) (off : Nat) : apart P t cs off = cs[off]? := by
 unfold apart
 cases hu : P.underlying t with
 | none => simp [knownT, hu] at hk
 | some d => simp [h]
theorem zac1 (h : elemT P t = some e) : P.underlying t = some (.slice e) := by
 unfold elemT at h
 split at h
 ·cases h; assumption
 ·cases h
theorem zafs (h : elemT P t = some e) (hs : szT P e = some sz) (b off n : Nat) (k : IntKind) (j : Int) :
    aindexAddr P t (.slice (some ⟨b, off, none⟩) n sz) (.int k j) = if 0 ≤ j ∧ j < n then some (.pointer (some ⟨b, off + j.toNat * sz, none⟩)) else none := by
 simp [aindexAddr, zac1 h, hs]
theorem zafa (h : elemT P t = some e) (hs : szT P e = some sz) (b off n : Nat) (lo hi : Option Value) :
    aslice P t (.slice (some ⟨b, off, none⟩) n sz) lo hi none = (abound hi n).bind fun h => (abound lo 0).bind fun l => if 0 ≤ l ∧ l ≤ h ∧ h ≤ n then some (.slice (some ⟨b, off + l.toNat * sz, none⟩) (h - l).toNat sz) else none := by
 simp [aslice, zac1 h, hs]
theorem zalg (h : elemT P t = some e) (hs : szT P e = some sz) (lo hi : Option Value) :
    aslice P t (.slice none 0 0) lo hi none = (abound hi 0).bind fun h => (abound lo 0).bind fun l => if 0 ≤ l ∧ l ≤ h ∧ h ≤ 0 then some (.slice none 0 0) else none := by
 simp [aslice, zac1 h, hs]
theorem zarj (h : P.underlying t = some .string) (s : ByteArray) (lo hi : Option Value) :
    aslice P t (.string s) lo hi none = (abound hi s.size).bind fun h => (abound lo 0).bind fun l => if 0 ≤ l ∧ l ≤ h ∧ h ≤ s.size then some (.string (s.extract l.toNat h.toNat)) else none := by
 simp [aslice, h]
theorem zabd (d : Int) : abound none d = some d := _root_.id rfl
theorem zabe (k : IntKind) (i d : Int) : abound (some (.int k i)) d = some i := _root_.id rfl
theorem zaec (x : Operand) : lop P ρ H (.call ⟨.builtin .len, #[x], #[t]⟩) = alen P t (ρ x) H := _root_.id rfl
theorem zag5 (h : elemT P t = some e) (p : Option Addr) (n c : Nat) : alen P t (.slice p n c) H = some (.int .i64 n) := by simp [alen, zac1 h]
theorem zare (h : P.underlying t = some .string) (s : ByteArray) : alen P t (.string s) H = some (.int .i64 s.size) := by simp [alen, h]
theorem zard (h : P.underlying t = some .string) (s : ByteArray) (k : IntKind) (j : Int) : aindex P t (.string s) (.int k j) = if 0 ≤ j then (s[j.toNat]?).map fun b => .int .u8 b.toNat else none := by simp [aindex, h]
theorem zach (c a b : Operand) : lop P ρ H (.pick c a b) = match ρ c with | .bool t => some (if t then ρ a else ρ b) | _ => none := _root_.id rfl
theorem zaed (x : Operand) : lop P ρ H (.nilCheck x) = match ρ x with
    | .pointer (some a) => some (.pointer (some a))
    | .func (.func f) a b => some (.func (.func f) a b)
    | _ => none := _root_.id rfl
theorem zalw (x : Operand) (i off w : Nat) (h : place P t i = some (off, w)) (hw : w ≠ 0) : lop P ρ H (.fieldAddr t x i) = match ρ x with
    | .pointer (some a) => if a.spot = none then some (.pointer (some ⟨a.block, a.off + off, none⟩)) else none
    | _ => none := by
 simp only [lop]
 generalize ρ x = v
 cases v <;> try rfl
 rename_i a
 cases a <;> simp [h, hw]
theorem zaat (x : Operand) (i : Nat) : lop P ρ H (.extract x i) = match ρ x with | .tuple vs => vs[i]? | _ => none := _root_.id rfl
theorem zagf (parts : Array (Nat × Operand)) (z : Value) (hz : zeroT P t = some z) (hs : sized P t = true) (hf : flat 8 z = true) : lop P ρ H (.build t parts) =
    if parts.toList.all (fun p => !isTup (ρ p.2)) then (afill (place P t) z.cells.toList (parts.toList.map fun p => (p.1, ρ p.2))).map fun cs => .agg cs.toArray else none := by
 simp [lop, hz, hs, hf]
theorem zadx (x : Operand) : lop P ρ H (.unOp .not t x) = match ρ x with | .bool b => some (.bool (!b)) | v => (if flat 8 v then onlyFlat (pureRun P (Op.unary .not v)) else none) := by
 simp only [lop]
 generalize ρ x = v
 cases v <;> rfl
def infoT (P : Program) (t : TypeId) : Option (Nat × Nat) := (P.info? t).bind fun i => if i.zero.map (·.cells.size) = some i.size then some (i.size, i.bytes) else none
def agrow2 (elem : TypeId) (size bytes : Nat) (s : Value) (k : Nat) (new : List Value) (H : Hp) : Option (Value × Hp) :=
 match s with
 | .slice none 0 0 =>
  if k = 0 then some (.slice none 0 0, H) else
  if k * bytes ≤ 140737488355328 ∧ k ≤ 9223372036854775807 then some (.slice (some ⟨H.next, 0, none⟩) k size, H.push (.cells true (slT elem) new)) else none
 | .slice (some a) n sz =>
  if k = 0 then some (.slice (some a) n sz, H) else
  match H.get a.block with
  | .cells true e0 c =>
   if sz = size ∧ a.spot = none ∧ a.off + n * sz ≤ c.length ∧ (n + k) * bytes ≤ 140737488355328 ∧ n + k ≤ 9223372036854775807 then
    some (.slice (some ⟨H.next, 0, none⟩) (n + k) sz, (H.put a.block .dead).push (.cells true (agT e0 elem a.off) ((c.drop a.off).take (n * sz) ++ new)))
   else none
  | _ => none
 | _ => none
theorem zald {u : TypeId} {bytes : Nat} (h : elemT P t = some e) (hi : infoT P e = some (sz, bytes)) (hx : takesT P u = true) (s x : Value) : aappend P t u s x H = (acells sz x (alenOf x) H).bind fun new => agrow2 e sz bytes s (alenOf x) new H := by
 simp only [infoT, Option.bind_eq_some_iff] at hi
 obtain ⟨inf, h1, h2⟩ := hi
 split at h2
 ·rename_i hz
  cases h2
  simp only [aappend, zac1 h, h1, hx, if_true]
  congr 1
  funext new
  unfold agrow agrow2
  split <;> (simp only [hz, and_true]) <;> rfl
 ·cases h2
theorem zan0 {z : Value} {bytes : Nat} (h : elemT P t = some e) (hi : infoT P e = some (sz, bytes)) (hz : zeroT P e = some z) (hf : flat 8 z = true) (len : Nat) (parts : List (Nat × Value)) (hl : len * sz ≤ 16777216) :
    abuild P t len parts = if parts.all (fun p => !isTup p.2) then (afill (fun i => some (i * sz, sz)) (List.replicate len z.cells.toList).flatten parts).map fun cs => (sz, e, cs) else none := by
 simp only [infoT, Option.bind_eq_some_iff] at hi
 obtain ⟨inf, h1, h2⟩ := hi
 split at h2
 ·rename_i hzz
  cases h2
  have : inf.zero = some z := by simpa [zeroT, h1] using hz
  rw [this] at hzz
  simp only [Option.map_some, Option.some.injEq] at hzz
  simp only [abuild, zac1 h, h1, this, Option.bind_some, hzz, hf, hl, true_and]
 ·cases h2
theorem zan3 {b off : Nat} {el : TypeId} {c : List Value} {x : Value} (hg : H.get b = .cells true el c) (hs : szT P t = some x.cells.size) (ht : isTup x = false) (hl : off + x.cells.size ≤ c.length) :
    astore P t (.pointer (some ⟨b, off, none⟩)) x H = some (H.put b (.cells true el (setAll c off x.cells.toList))) := by
 simp [astore, hg, hs, ht, hl]
theorem zauu (hs : szT P t = some n) (b off : Nat) (x : Value) : astore P t (.pointer (some ⟨b, off, none⟩)) x H = match H.get b with
    | .cells true e c => if x.cells.size = n ∧ isTup x = false ∧ off + n ≤ c.length then some (H.put b (.cells true e (setAll c off x.cells.toList))) else none
    | _ => none := by
 simp only [astore, hs, and_true, Option.some.injEq]
 cases H.get b with
 | cells o e c =>
  cases o with
  | false => rfl
  | true =>
   simp only
   by_cases h : x.cells.size = n
   ·subst h; simp
   ·rw [if_neg (fun k => h k.1.symm), if_neg (fun k => h k.1)]
 | _ => rfl
end
end Go.Proofs.YtliemjbafgnnbaaDoor.Abs
