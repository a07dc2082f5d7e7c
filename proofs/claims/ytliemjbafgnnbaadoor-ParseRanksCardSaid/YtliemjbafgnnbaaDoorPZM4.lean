/- The law ParseRanks over the plain heap; what is given from outside is sound. -/
import Derived.Test.YtliemjbafgnnbaaDoorMM1
import Derived.Test.YtliemjbafgnnbaaDoorPW29
import Derived.Test.YtliemjbafgnnbaaDoorMI2
import Derived.Test.YtliemjbafgnnbaaDoorPZK0z
import Derived.Test.YtliemjbafgnnbaaDoorMW7
set_option maxHeartbeats 0
set_option linter.unusedSimpArgs false
set_option linter.unusedVariables false
set_option maxRecDepth 4000
namespace Go.Proofs.YtliemjbafgnnbaaDoor.Abs
open Go Go.RowKit
attribute [local irreducible] Hold VReg Vf Vc VWP With VStp Vcallee Vp VE SeqK BlkK FinK NormK
def ixU6 : List Value → List Blk → Option (Value × List (Nat × Blk)) := fun args _ => match args with
 | [.string s, .int .u8 n] => some (.int .i64 (Lib.indexByte s.data.toList n.toNat.toUInt8), [])
 | _ => none
def quU6 : List Value → List Blk → Option (Value × List (Nat × Blk)) := fun args _ => match args with
 | [.string s, .int .i64 k] => if 0 ≤ k ∧ k.toNat < s.size ∧ s.size ≤ 1000000 then some (quoV (quoF s s.size (k.toNat + 1) []), []) else none
 | _ => none
def itU6 : List Value → List Blk → Option (Value × List (Nat × Blk)) := fun args _ => match args with
 | [.int .i64 n] => if 1 ≤ n ∧ n ≤ 999 then some (.string (itoaS n), []) else none
 | _ => none
def atU6 : List Value → List Blk → Option (Value × List (Nat × Blk)) := fun args _ => match args with
 | [.string s] => if s.size ≤ 1000 then some (atoiV 92 atoiW s, []) else none
 | _ => none
noncomputable def XP6 : VOuter := fun f => if f = 40 then some ixU6 else if f = 25 then some quU6 else if f = 61 then some itU6 else if f = 33 then some atU6 else if f = 39 then some (fun _ _ => none) else none
theorem zar4 {R : Rl} {B : List Blk} (hR : HRel R B) (hf : ∀ d, R.ρ (d, none) = none) : Done R R B [] where
 hr := hR
 φ := rfl
 M := rfl
 nx := Nat.le_refl _
 fr := fun _ _ _ => rfl
 keep := fun _ _ _ => rfl
 frame := hf
 tok := fun k b h => .inl h
 w := fun p h => by cases h
theorem za0m (R : Rl) (o : Option (List UInt8 × Nat)) : Rd R (quoV o) (quoV o) := by
 cases o with
 | none => exact .tuple _ _ rfl (RdL.cons (.string _) (.cons (.int _ _) (.cons (.bool _) .nil))).2
 | some te => exact .tuple _ _ rfl (RdL.cons (.string _) (.cons (.int _ _) (.cons (.bool _) .nil))).2
theorem zanw {f : FuncId} {gV : List Value → List Blk → Option (Value × List (Nat × Blk))} {gA : List Value → Hp → Option (Value × Hp)} (hY : YP f = some gA)
    (h : ∀ args B r ws, gV args B = some (r, ws) → ws = [] ∧ args.all isScal = true ∧ ∃ r', (∀ H, gA args H = some (r', H)) ∧ ∀ R, Rd R r r') :
    ∀ args B r ws, gV args B = some (r, ws) → ∀ R cargs, HRel R B → (∀ d, R.ρ (d, none) = none) → RdL R args cargs → Df Tryd.prog YP f cargs R.H fun cr H' => ∃ R' : Rl, R'.H = H' ∧ Done R R' B ws ∧ Rd R' r cr := by
 intro args B r ws hr R cargs hR hf ha
 obtain ⟨rfl, hs, r', hg, hrd⟩ := h args B r ws hr
 obtain rfl := zaky args cargs ha hs
 exact Df_ext (g := gA) (r := (r', R.H)) hY (hg R.H) ⟨R, rfl, zar4 hR hf, hrd R⟩
theorem zaz4 (l : List UInt8) (c : UInt8) : ixB l c 0 = Lib.indexByte l c := by
 obtain ⟨h1, h2⟩ := ixB_eq l c 0 (by omega)
 by_cases h : Lib.indexByte l c = -1
 ·rw [h1 h, h]
 ·rw [h2 h]; omega
theorem xp6_ok : VXOk Tryd.prog YP XP6 := by
 intro f
 by_cases h1 : f = 40
 ·subst h1
  show ∀ args B r ws, ixU6 args B = some (r, ws) → _
  refine zanw (gA := ixG) rfl fun args B r ws hr => ?_
  unfold ixU6 at hr
  split at hr
  ·rename_i s n
   cases hr
   refine ⟨rfl, rfl, .int .i64 (Lib.indexByte s.data.toList n.toNat.toUInt8), fun H => ?_, fun R => .int _ _⟩
   simp only [ixG]
   rw [zaz4]
  ·cases hr
 ·by_cases h2 : f = 25
  ·subst h2
   show ∀ args B r ws, quU6 args B = some (r, ws) → _
   intro args B r ws hr R cargs hR hf ha
   unfold quU6 at hr
   split at hr
   ·rename_i s k
    split at hr
    ·rename_i hk
     cases hr
     obtain rfl := zaky _ _ ha rfl
     have hkk : (k.toNat : Int) = k := by omega
     rw [← hkk]
     refine (za0k (X := YP) rfl rfl rfl rfl (H := R.H) hk.2.1 hk.2.2).mono ?_
     rintro cr H' ⟨rfl, n2, g2⟩
     rw [Int.toNat_natCast]
     exact ⟨{ R with H := H' }, rfl, zau5 hR hf n2 g2, za0m _ _⟩
    ·cases hr
   ·cases hr
  ·by_cases h3 : f = 61
   ·subst h3
    show ∀ args B r ws, itU6 args B = some (r, ws) → _
    refine zanw (gA := itoaKG) rfl fun args B r ws hr => ?_
    unfold itU6 at hr
    split at hr
    ·rename_i n
     split at hr
     ·rename_i hn
      cases hr
      refine ⟨rfl, rfl, .string (itoaS n), fun H => ?_, fun R => .string _⟩
      simp only [itoaKG]
      rw [if_pos ⟨by omega, by omega⟩, zash ⟨by omega, by omega⟩]
      rfl
     ·cases hr
    ·cases hr
   ·by_cases h4 : f = 33
    ·subst h4
     show ∀ args B r ws, atU6 args B = some (r, ws) → _
     refine zanw (gA := atoiG 92) rfl fun args B r ws hr => ?_
     unfold atU6 at hr
     split at hr
     ·rename_i s
      split at hr
      ·rename_i hs
       cases hr
       have hs2 : s.data.size ≤ 1000000 := by
        have : s.data.size = s.size := rfl
        omega
       cases ha : Lib.atoiAll s.data.toList with
       | ok v =>
        have hv : atoiV 92 atoiW s = .tuple ⟨[.int .i64 v, .nilIface]⟩ := by simp [atoiV, atoiN, ha]
        rw [hv]
        refine ⟨rfl, rfl, _, fun H => by simp only [atoiG]; rw [if_pos hs2, ha], fun R => .tuple _ _ rfl (RdL.cons (.int _ _) (.cons (.scal _ rfl) .nil)).2⟩
       | range =>
        have hv : atoiV 92 atoiW s = .tuple ⟨[.int .i64 (Lib.atoiSat s.data.toList), .iface 92 undef]⟩ := by simp [atoiV, atoiN, atoiW, ha]
        rw [hv]
        refine ⟨rfl, rfl, _, fun H => by simp only [atoiG]; rw [if_pos hs2, ha], fun R => .tuple _ _ rfl (RdL.cons (.int _ _) (.cons (.iface _ _ _ (.undef _)) .nil)).2⟩
       | _ =>
        have hv : atoiV 92 atoiW s = .tuple ⟨[.int .i64 0, .iface 92 undef]⟩ := by simp [atoiV, atoiN, atoiW, ha]
        rw [hv]
        refine ⟨rfl, rfl, _, fun H => by simp only [atoiG]; rw [if_pos hs2, ha], fun R => .tuple _ _ rfl (RdL.cons (.int _ _) (.cons (.iface _ _ _ (.undef _)) .nil)).2⟩
      ·cases hr
     ·cases hr
    ·by_cases h5 : f = 39
     ·subst h5
      show ∀ args B r ws, (none : Option (Value × List (Nat × Blk))) = some (r, ws) → _
      intro args B r ws hr
      cases hr
     ·have e : XP6 f = none := by unfold XP6; rw [if_neg h1, if_neg h2, if_neg h3, if_neg h4, if_neg h5]
      rw [e]
      show YP f = none
      unfold YP
      rw [if_neg h1, if_neg h3, if_neg h4, if_neg h5]
theorem ix6_c (s : ByteArray) (n : Int) (S : VH) (K : VCont) : Vcallee Tryd.prog XP6 40 [.string s, .int .u8 n] S K = K (.int .i64 (Lib.indexByte s.data.toList n.toNat.toUInt8)) [] S [] false := by
 refine zaac (args' := [.string s, .int .u8 n]) ?_ rfl rfl rfl
 unfold Vp
 refine zakg (g := ixU6) rfl ?_
 have e : ixU6 [.string s, .int .u8 n] [] = some (.int .i64 (Lib.indexByte s.data.toList n.toNat.toUInt8), []) := rfl
 rw [e, zaag]
 exact ⟨rfl, rfl⟩
theorem ixb6_c (l : List UInt8) (n : Nat) (hn : n < 256) (S : VH) (K : VCont) : Vcallee Tryd.prog XP6 32 [.string ⟨l.toArray⟩, .int .u8 n] S K = K (.int .i64 (Lib.indexByte l (UInt8.ofNat n))) [] S [] false := by
 refine zaac (args' := [.string ⟨l.toArray⟩, .int .u8 n]) ?_ rfl rfl rfl
 unfold Vp
 refine zaao rfl Tryd.func32 rfl (by kernel_rfl) (by show 2 ≤ _; decide) ?_
 simp -dsimp only [↓kpre, kpost, light, ret1, cellF, afill, setAll, simprocAttr, ↓vfk40, Tryd.results32, ↓ix6_c]
 try rfl
theorem quo6_c (s : ByteArray) (k : Nat) (hk : k < s.size) (hs : s.size ≤ 1000000) (S : VH) (K : VCont) : Vcallee Tryd.prog XP6 25 [.string s, .int .i64 k] S K = K (quoV (quoF s s.size (k + 1) [])) [] S [] false := by
 refine zaac (args' := [.string s, .int .i64 k]) ?_ rfl rfl ?_
 ·unfold Vp
  refine zakg (g := quU6) rfl ?_
  have e : quU6 [.string s, .int .i64 k] [] = some (quoV (quoF s s.size (k + 1) []), []) := by
   unfold quU6
   simp only [Int.toNat_natCast]
   rw [if_pos ⟨by omega, hk, hs⟩]
  rw [e, zaag]
  exact ⟨rfl, rfl⟩
 ·cases quoF s s.size (k + 1) [] with
  | none => rfl
  | some te => rfl
theorem it6_c (r : Int) (h1 : 1 ≤ r) (h2 : r ≤ 999) (S : VH) (K : VCont) : Vcallee Tryd.prog XP6 61 [.int .i64 r] S K = K (.string (itoaS r)) [] S [] false := by
 refine zaac (args' := [.int .i64 r]) ?_ rfl rfl rfl
 unfold Vp
 refine zakg (g := itU6) rfl ?_
 have e : itU6 [.int .i64 r] [] = some (.string (itoaS r), []) := by unfold itU6; simp only; rw [if_pos ⟨h1, h2⟩]
 rw [e, zaag]
 exact ⟨rfl, rfl⟩
theorem at6_c (s : ByteArray) (h : s.size ≤ 1000) (S : VH) (K : VCont) : Vcallee Tryd.prog XP6 33 [.string s] S K = K (atoiV 92 atoiW s) [] S [] false := by
 refine zaac (args' := [.string s]) ?_ rfl rfl (by unfold atoiV; cases atoiN s <;> rfl)
 unfold Vp
 refine zakg (g := atU6) rfl ?_
 have e : atU6 [.string s] [] = some (atoiV 92 atoiW s, []) := by unfold atU6; simp only; rw [if_pos h]
 rw [e, zaag]
 exact ⟨rfl, rfl⟩
theorem xp6_n : NOff XP6 := ⟨rfl, rfl, rfl, rfl⟩
theorem rd6_c (t : ByteArray) (h : t.size ≤ 1000) (S : VH) (K : VCont) : Vcallee Tryd.prog XP6 56 [.string t] S K = K (tripF (atF t)) [] S [] false :=
 zaac (args' := [.string t]) (at_p rfl rfl rfl 92 atoiW (fun r h1 h2 S K => it6_c r h1 h2 S K) (fun s hs S K => at6_c s hs S K) t h) rfl rfl (by cases atF t <;> rfl)
theorem xp6_tk : TkOff XP6 := ⟨rfl, rfl, rfl, rfl, rfl, rfl, rfl, rfl, ixb6_c, quo6_c⟩
theorem xp6_pa : PaOff XP6 := ⟨rfl, rfl, rfl, rfl, rfl, rfl, rfl, rfl, rfl, rfl, rfl, rfl, rfl, rfl, rfl, rfl, rfl, rfl, rfl, xp6_n, rfl, rd6_c, at6_c⟩
theorem xp6_pk : PkOff XP6 := ⟨rfl, rfl, rfl, rfl, rfl, xp6_tk, xp6_pa⟩
theorem lawR_df (p q : Int) : Df Tryd.prog YP 3 [.int .i64 p, .int .i64 q] ⟨0, .tip⟩ fun r _ => r = .bool true :=
 Vf_Df xp6_ok (lawR_v xp6_pk rfl rfl p q) (.cons (.int _ _) (.cons (.int _ _) .nil))
end Go.Proofs.YtliemjbafgnnbaaDoor.Abs
