/- Closed runs: what the evaluator answers over the empty heap, it answers; finitely many inputs are gone through by the kernel. -/
import Derived.Test.YtliemjbafgnnbaaDoorPA20
import Derived.Test.YtliemjbafgnnbaaDoorProg
import Derived.KernelRfl
import Derived.Lib.Bytealg
set_option maxHeartbeats 0
set_option linter.unnecessarySimpa false
set_option linter.unusedSimpArgs false
set_option linter.unusedVariables false
namespace Go.Proofs.YtliemjbafgnnbaaDoor.Abs
open Go
def ixB : List UInt8 → UInt8 → Int → Int
 | [], _, _ => -1
 | b :: l, c, i => if b == c then i else ixB l c (i + 1)
theorem ix_ge (l : List UInt8) (c : UInt8) : -1 ≤ Lib.indexByte l c := by
 induction l with
 | nil => simp [Lib.indexByte]
 | cons b l ih =>
  simp only [Lib.indexByte]
  split
  ·omega
  ·split <;> omega
theorem ixB_eq (l : List UInt8) (c : UInt8) : ∀ i : Int, 0 ≤ i → (Lib.indexByte l c = -1 → ixB l c i = -1) ∧ (Lib.indexByte l c ≠ -1 → ixB l c i = Lib.indexByte l c + i) := by
 induction l with
 | nil => intro i hi; exact ⟨fun _ => rfl, fun h => absurd rfl h⟩
 | cons b l ih =>
  intro i hi
  have hg := ix_ge l c
  have hc : Lib.indexByte (b :: l) c = if b == c then 0 else if Lib.indexByte l c == -1 then -1 else Lib.indexByte l c + 1 := rfl
  have hx : ixB (b :: l) c i = if b == c then i else ixB l c (i + 1) := rfl
  rw [hc, hx]
  obtain ⟨h1, h2⟩ := ih (i + 1) (by omega)
  by_cases hb : (b == c) = true
  ·simp only [if_pos hb]
   exact ⟨fun h => by omega, fun _ => by omega⟩
  ·simp only [if_neg hb]
   by_cases hx : Lib.indexByte l c = -1
   ·have e : (Lib.indexByte l c == -1) = true := by simpa using hx
    simp only [if_pos e]
    exact ⟨fun _ => h1 hx, fun h => absurd rfl h⟩
   ·have e : ¬ (Lib.indexByte l c == -1) = true := by simpa using hx
    simp only [if_neg e]
    exact ⟨fun h => by omega, fun _ => by rw [h2 hx]; omega⟩
def ixG : List Value → Hp → Option (Value × Hp) := fun args H => match args with
 | [.string s, .int .u8 c] => some (.int .i64 (ixB s.data.toList c.toNat.toUInt8 0), H)
 | _ => none
theorem zaz6 {P : Program} {B : Nat} {w0 : World} {k : FuncId} (hc : ∀ (s : ByteArray) (c : Int) (w : World), Calls P k #[.string s, .int .u8 c] w fun e w' => e = .returned (.int .i64 (Lib.indexByte s.data.toList c.toNat.toUInt8)) ∧ w' = w) : KSound P B w0 fun f' args H => if f' = k then ixG args H else none := by
 intro b hb f' args H v H' hr φ w args' hR ha
 simp only at hr
 split at hr
 ·rename_i hff
  subst hff
  unfold ixG at hr
  split at hr
  ·rename_i s c
   cases hr
   have e : args' = [.string s, .int .u8 c] := zana rfl ha
   subst e
   refine (hc s c w).mono ?_
   rintro e w' ⟨rfl, rfl⟩
   refine ⟨φ, _, Plan.le_refl φ, rfl, ?_, hR⟩
   obtain ⟨h1, h2⟩ := ixB_eq s.data.toList c.toNat.toUInt8 0 (by omega)
   by_cases hx : Lib.indexByte s.data.toList c.toNat.toUInt8 = -1
   ·rw [h1 hx, hx]; exact .int _ _
   ·rw [h2 hx, Int.add_zero]; exact .int _ _
  ·cases hr
 ·cases hr
end Go.Proofs.YtliemjbafgnnbaaDoor.Abs
