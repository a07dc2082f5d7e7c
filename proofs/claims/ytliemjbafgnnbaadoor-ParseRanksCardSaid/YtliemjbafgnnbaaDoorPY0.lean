/- The library's answers that are supplied from outside: strconv.Itoa and strconv.Atoi, in a form that the kernel reckons. -/
import Derived.Test.YtliemjbafgnnbaaDoorPT0
import Derived.Lib.ItoaNum
import Derived.Lib.AtoiAll
import Derived.Lib.LaidTab
import Derived.Lib.AppendIntMem
import Derived.Lib.AtoiErrMem
set_option maxHeartbeats 0
set_option linter.unusedSimpArgs false
set_option linter.unusedVariables false
namespace Go.Proofs.YtliemjbafgnnbaaDoor.Abs
open Go Go.RowKit Go.Sort
def decF : Nat → Nat → List UInt8
 | 0, _ => []
 | k + 1, u => if u < 10 then [UInt8.ofNat (48 + u)] else decF k (u / 10) ++ [UInt8.ofNat (48 + u % 10)]
theorem zar0 : ∀ (k u : Nat), u < 10 ^ k → 0 < k → decF k u = Lib.decDigits u
 | 0, u, _, h => absurd h (by omega)
 | k + 1, u, h, _ => by
  rw [Lib.decDigits]
  simp only [decF]
  by_cases hu : u < 10
  ·rw [if_pos hu, dif_pos hu]
  ·rw [if_neg hu, dif_neg hu]
   have hk : 0 < k := by
    refine Nat.pos_of_ne_zero fun h0 => ?_
    subst h0
    simp at h
    omega
   rw [zar0 k (u / 10) (by rw [Nat.pow_succ] at h; omega) hk]
def itoaK (n : Int) : List UInt8 := if n < 0 then 45 :: decF 20 n.natAbs else decF 20 n.toNat
theorem zash {n : Int} (h : -9223372036854775808 ≤ n ∧ n ≤ 9223372036854775807) : itoaK n = Lib.itoa n := by
 unfold itoaK Lib.itoa
 split
 ·rw [zar0 20 _ (Nat.lt_of_lt_of_le (show n.natAbs < 10000000000000000000 by omega) (by decide)) (by decide)]
 ·rw [zar0 20 _ (Nat.lt_of_lt_of_le (show n.toNat < 10000000000000000000 by omega) (by decide)) (by decide)]
def itoaKG : List Value → Hp → Option (Value × Hp) := fun args H => match args with
 | [.int .i64 n] => if -9223372036854775808 ≤ n ∧ n ≤ 9223372036854775807 then some (.string ⟨(itoaK n).toArray⟩, H) else none
 | _ => none
def atoiG (T : TypeId) : List Value → Hp → Option (Value × Hp) := fun args H => match args with
 | [.string s] => if s.data.size ≤ 1000000 then (match Lib.atoiAll s.data.toList with
     | .ok v => some (.tuple #[.int .i64 v, .nilIface], H)
     | .range => some (.tuple #[.int .i64 (Lib.atoiSat s.data.toList), .iface T undef], H)
     | _ => some (.tuple #[.int .i64 0, .iface T undef], H)) else none
 | _ => none
theorem zagk {P : Program} {w0 w : World} {name : String} {a : Array Value} (h : w0.var? P name = some a) (b : Below w0.heap.size w0 w) : w.var? P name = some a := by
 unfold World.var? at *
 cases hg : P.globalNamed name with
 | none => rw [hg] at h; simp at h
 | some g =>
  rw [hg] at h
  simp only [Option.bind_some] at h ⊢
  have hlt : g < w0.heap.size := by
   refine Decidable.byContradiction fun hn => ?_
   rw [Array.getElem?_eq_none (by omega)] at h
   simp at h
  rw [b.block g hlt]
  exact h
theorem zaqc {P : Program} {B : Nat} {w0 : World} {k : FuncId} (hc : ∀ (n : Int), -9223372036854775808 ≤ n → n ≤ 9223372036854775807 → ∀ w, Below B w0 w → Calls P k #[.int .i64 n] w fun e w' => e = .returned (.string ⟨(Lib.itoa n).toArray⟩) ∧ ∃ k os, w' = grow (w.drewN k) os) : KSound P B w0 fun f' args H => if f' = k then itoaKG args H else none := by
 intro b hb f' args H v H' hr φ w args' hR ha
 simp only at hr
 split at hr
 ·rename_i hff
  subst hff
  unfold itoaKG at hr
  split at hr
  ·rename_i n
   split at hr
   ·rename_i hn
    cases hr
    have e : args' = [.int .i64 n] := zana rfl ha
    subst e
    refine (hc n hn.1 hn.2 w (hb ▸ hR.below)).mono ?_
    rintro e w' ⟨rfl, k, os, rfl⟩
    rw [zash hn]
    exact ⟨φ, _, Plan.le_refl φ, rfl, .string _, hR.grow (Lib.below_grow _ _ (Nat.le_refl _) _ _)⟩
   ·cases hr
  ·cases hr
 ·cases hr
theorem tup2 {φ : Plan} {a b b' : Value} (ha : flat 8 a = true) (hb : VR φ b b') : VR φ (.tuple #[a, b]) (.tuple #[a, b']) := by
 refine .tuple _ _ rfl fun i => ?_
 match i with
 | 0 => exact zac5 8 _ ha
 | 1 => exact hb
 | i + 2 => simp [Array.getD]; exact .undef _ _
theorem zark {P : Program} {B : Nat} {w0 : World} {k : FuncId} {T u : TypeId}
    (h1 : ∀ (s : ByteArray), s.size ≤ 1000000 → ∀ v, Lib.atoiAll s.data.toList = .ok v → ∀ w, Calls P k #[.string s] w fun e w' => e = .returned (.tuple #[.int .i64 v, .nilIface]) ∧ (w' = w ∨ ∃ t, w' = Lib.bytesWorld w u t))
    (h2 : ∀ (s : ByteArray), s.size ≤ 1000000 → Lib.atoiAll s.data.toList = Lib.atoiAll [] → ∀ w, Below B w0 w → Calls P k #[.string s] w fun e w' => ∃ N : Nat, e = .returned (.tuple #[.int .i64 0, .iface T (.pointer (some ⟨N, 0, none⟩))]) ∧ Below w.heap.size w w')
    (h3 : ∀ (s : ByteArray), s.size ≤ 1000000 → Lib.atoiAll s.data.toList = .range → ∀ w, Below B w0 w → Calls P k #[.string s] w fun e w' => ∃ N : Nat, e = .returned (.tuple #[.int .i64 (Lib.atoiSat s.data.toList), .iface T (.pointer (some ⟨N, 0, none⟩))]) ∧ Below w.heap.size w w') :
    KSound P B w0 fun f' args H => if f' = k then atoiG T args H else none := by
 intro b hb f' args H v H' hr φ w args' hR ha
 simp only at hr
 split at hr
 ·rename_i hff
  subst hff
  unfold atoiG at hr
  split at hr
  ·rename_i s
   split at hr
   ·rename_i hsz
    have e : args' = [.string s] := zana rfl ha
    subst e
    split at hr
    ·rename_i n hn
     cases hr
     refine (h1 s hsz n hn w).mono ?_
     rintro e w' ⟨rfl, hw⟩
     refine ⟨φ, _, Plan.le_refl φ, rfl, tup2 rfl .nilIface, ?_⟩
     rcases hw with rfl | ⟨t, rfl⟩
     ·exact hR
     ·exact hR.grow (Lib.bytesWorld_below _ _ _)
    ·rename_i hn
     cases hr
     refine (h3 s hsz hn w (hb ▸ hR.below)).mono ?_
     rintro e w' ⟨N, rfl, hb⟩
     exact ⟨φ, _, Plan.le_refl φ, rfl, tup2 rfl (.iface _ _ _ (.undef _ _)), hR.grow hb⟩
    ·rename_i hn1 hn2
     have hn : Lib.atoiAll s.data.toList = Lib.atoiAll [] := by
      cases hh : Lib.atoiAll s.data.toList with
      | ok v => exact (hn1 v hh).elim
      | range => exact (hn2 hh).elim
      | _ => rfl
     cases hr
     refine (h2 s hsz hn w (hb ▸ hR.below)).mono ?_
     rintro e w' ⟨N, rfl, hb⟩
     exact ⟨φ, _, Plan.le_refl φ, rfl, tup2 rfl (.iface _ _ _ (.undef _ _)), hR.grow hb⟩
   ·cases hr
  ·cases hr
 ·cases hr
end Go.Proofs.YtliemjbafgnnbaaDoor.Abs
