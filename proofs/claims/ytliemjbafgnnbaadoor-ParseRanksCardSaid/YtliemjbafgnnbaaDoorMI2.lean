/- strings.Builder over the plain heap: what is given of copyCheck, and the walks of WriteByte and String. -/
import Derived.Test.YtliemjbafgnnbaaDoorPZSC
import Derived.Test.YtliemjbafgnnbaaDoorPA20
import Derived.Test.YtliemjbafgnnbaaDoorPA27
import Derived.Test.YtliemjbafgnnbaaDoorMI1
set_option maxHeartbeats 0
set_option linter.unnecessarySimpa false
set_option linter.unusedSimpArgs false
set_option linter.unusedVariables false
set_option maxRecDepth 4000
namespace Go.Proofs.YtliemjbafgnnbaaDoor.Abs
open Go Go.RowKit
theorem zar7 : ∀ l : List UInt8, exactBytes (l.map cb) = some l
 | [] => rfl
 | b :: l => by
  have ih := zar7 l
  show (if (b.toNat : Int) = ((UInt8.ofNat (b.toNat : Int).toNat).toNat : Int) then (exactBytes (l.map cb)).map (UInt8.ofNat (b.toNat : Int).toNat :: ·) else none) = some (b :: l)
  rw [Int.toNat_natCast, UInt8.ofNat_toNat, if_pos rfl, ih]
  rfl
theorem Step_ustr {X : Outer} {ops : Array Oper} {dd : Option Tmp} {ty : TypeId} {pos : String} {af : Array Edge} {e : Env} {H : Hp} {K : Value → Hp → Prop} (pt it : TypeId) (s x : Operand) :
    Step Tryd.prog X ops ⟨dd, .call ⟨.builtin .unsafeString, #[s, x], #[pt, it]⟩, ty, pos, af, none⟩ e H K = With (austr Tryd.prog pt (aeval e s) (aeval e x) H) (Hold fun r => K r.1 r.2) := by
 rw [Step_heavy _ rfl]
 simp only [hop, zakh]
 rfl
theorem zand {ρ : Operand → Value} {H : Hp} (x : Operand) (ts : Array TypeId) : lop Tryd.prog ρ H (.call ⟨.builtin .unsafeSliceData, #[x], ts⟩) = adata (ρ x) := by
 simp only [lop]
theorem Step_data {X : Outer} {ops : Array Oper} {dd : Option Tmp} {ty : TypeId} {pos : String} {af : Array Edge} {e : Env} {H : Hp} {K : Value → Hp → Prop} (x : Operand) (ts : Array TypeId) :
    Step Tryd.prog X ops ⟨dd, .call ⟨.builtin .unsafeSliceData, #[x], ts⟩, ty, pos, af, none⟩ e H K = With (adata (aeval e x)) (Hold fun v => K v H) := by
 rw [← zand (H := H) x ts]; exact Step_light _ rfl
attribute [local irreducible] Hold DR DF Df Dc WP With
def cpG : List Value → Hp → Option (Value × Hp) := fun args H => match args with
 | [.pointer (some ⟨i, 0, none⟩)] => (match H.get i with
  | .cells true e [.pointer none, s] => if e = bxT 68 then some (.tuple #[], H.put i (.cells true e [.pointer (some ⟨i, 0, none⟩), s])) else none
  | .cells true e [.pointer (some c), s] => if e = bxT 68 ∧ c = ⟨i, 0, none⟩ then some (.tuple #[], H) else none
  | _ => none)
 | _ => none
theorem za2f {φ : Plan} {v : Value} {args' : List Value} (h : VRs φ [v] args') : ∃ v', args' = [v'] ∧ VR φ v v' := by
 match args', h.1 with
 | [v'], _ => exact ⟨v', rfl, h.head⟩
theorem zazp {B : Nat} {w0 : World} : KSound Tryd.prog B w0 fun f' args H => if f' = 39 then cpG args H else none := by
 intro b hb f' args H v H' hr φ w args' hR ha
 simp only at hr
 split at hr
 ·rename_i hff
  subst hff
  unfold cpG at hr
  split at hr
  ·rename_i i
   obtain ⟨v', rfl, hv⟩ := za2f ha
   cases hv with
   | ptr _ _ m hm =>
    split at hr
    ·rename_i e s hg
     split at hr
     ·rename_i he
      subst he
      cases hr
      obtain ⟨c1, h1, h2, h3⟩ := zaru hR (a := ⟨i, 0, none⟩) (v := Value.pointer none) (by simp [cellAt, hg]) hm
      cases h2
      obtain ⟨cur, e', fr, hh, hbx, hsz, hvr, hone, hown⟩ := zaeo hR hg hm
      obtain ⟨b1, b2, b3⟩ := (hbx rfl).1 (bxT_1 _)
      rw [elT_bx] at b1
      subst b1
      simp only [b2, Nat.zero_add] at h1 ⊢
      obtain ⟨k1, k2, k3, k4⟩ := hown rfl
      have b3' : cur.size = 2 := b3
      have hfz : w.frozen? ⟨m.blk, 0, none⟩ = false := by
       simp only [World.frozen?, hh]
       refine k4 0 ?_
       simp only [List.length_cons, List.length_nil] at k3
       omega
      refine (zap3 m.blk w h1 (by simp [World.shape?, hh, b3']) hfz).mono ?_
      rintro e w' ⟨rfl, rfl⟩
      have hself : VRs φ [Value.pointer (some ⟨i, 0, none⟩)] [Value.pointer (some ⟨m.blk, 0, none⟩)] := .cons (by have := VR.ptr (φ := φ) i 0 m hm; rwa [b2] at this) (.nil φ)
      obtain ⟨cur2, e2, fr2, g1, _, g3⟩ := hR.store (P := Tryd.prog) hg hm (off := 0) (vs := [Value.pointer (some ⟨i, 0, none⟩)]) (vs' := [Value.pointer (some ⟨m.blk, 0, none⟩)]) (by simp) hself (by intro v hv; simp at hv; subst hv; rfl)
      rw [hh] at g1
      cases g1
      rw [setCell_eq_setRow w m.blk 0 cur _ fr _ hh]
      refine ⟨φ, _, Plan.le_refl φ, rfl, .junk _, ?_⟩
      have ec : (cur.setIfInBounds 0 (Value.pointer (some ⟨m.blk, 0, none⟩))) = (cur.toList.take (m.base + 0) ++ [Value.pointer (some ⟨m.blk, 0, none⟩)] ++ cur.toList.drop (m.base + 0 + [Value.pointer (some ⟨m.blk, 0, none⟩)].length)).toArray := by
       rw [b2]
       obtain ⟨l⟩ := cur
       match l, b3' with
       | [x, y], _ => rfl
      rw [ec]
      exact g3
     ·cases hr
    ·rename_i e c s hg
     split at hr
     ·rename_i hc
      obtain ⟨he, rfl⟩ := hc
      subst he
      cases hr
      obtain ⟨c1, h1, h2, h3⟩ := zaru hR (a := ⟨i, 0, none⟩) (v := Value.pointer (some ⟨i, 0, none⟩)) (by simp [cellAt, hg]) hm
      obtain ⟨cur, e', fr, hh, hbx, _⟩ := zaeo hR hg hm
      obtain ⟨b1, b2, b3⟩ := (hbx rfl).1 (bxT_1 _)
      cases h2 with
      | ptr _ _ m2 hm2 =>
       rw [hm] at hm2
       cases hm2
       simp only [b2, Nat.zero_add] at h1 ⊢
       refine (zarw m.blk w h1).mono ?_
       rintro e w' ⟨rfl, rfl⟩
       exact ⟨φ, _, Plan.le_refl φ, rfl, .junk _, hR⟩
     ·cases hr
    ·cases hr
  ·cases hr
 ·cases hr
def Row (n0 i : Nat) (H : Hp) (s : Value) (l : List UInt8) : Prop :=
 (l = [] ∧ s = .slice none 0 0) ∨ ∃ j, s = .slice (some ⟨j, 0, none⟩) l.length 1 ∧ n0 ≤ j ∧ j < H.next ∧ j ≠ i ∧ l ≠ [] ∧ H.get j = .cells true (slT 5) (l.map cb)
def Bld (H0 H : Hp) (i : Nat) (l : List UInt8) : Prop := H0.next ≤ i ∧ i < H.next ∧ (∀ b, b < H0.next → H.get b = H0.get b) ∧
 ∃ a s, H.get i = .cells true (bxT 68) [.pointer a, s] ∧ (a = none ∨ a = some ⟨i, 0, none⟩) ∧ Row H0.next i H s l
theorem Row.frame {n0 i : Nat} {H H' : Hp} {s : Value} {l : List UInt8} (h : Row n0 i H s l) (hn : H.next ≤ H'.next) (hg : ∀ j, n0 ≤ j → j < H.next → j ≠ i → H'.get j = H.get j) : Row n0 i H' s l := by
 rcases h with h | ⟨j, h1, h2, h3, h4, h5, h6⟩
 ·exact .inl h
 ·exact .inr ⟨j, h1, h2, by omega, h4, h5, by rw [hg j h2 h3 h4, h6]⟩
theorem Row.len {n0 i : Nat} {H : Hp} {s : Value} {l : List UInt8} (h : Row n0 i H s l) : isTup s = false ∧ s.cells = #[s] := by
 rcases h with ⟨_, rfl⟩ | ⟨j, rfl, _⟩ <;> exact ⟨rfl, rfl⟩
theorem Row.grow {n0 i : Nat} {H : Hp} {s : Value} {l new : List UInt8} (h : Row n0 i H s l) (h0 : new ≠ []) (hl : l.length + new.length ≤ 140737488355328) :
    ∃ Hb, agrow2 5 1 1 s new.length (new.map cb) H = some (.slice (some ⟨H.next, 0, none⟩) (l ++ new).length 1, Hb) ∧ Hb.next = H.next + 1 ∧ Hb.get H.next = .cells true (slT 5) ((l ++ new).map cb) ∧ ∀ b, b < H.next → (b < n0 ∨ b = i) → Hb.get b = H.get b := by
 have hk : new.length ≠ 0 := by simpa using h0
 rcases h with ⟨rfl, rfl⟩ | ⟨j, rfl, h2, h3, h4, h5, h6⟩
 ·refine ⟨H.push (.cells true (slT 5) (new.map cb)), ?_, zaad _ _, by rw [zaab, if_pos rfl]; simp, fun b hb _ => by rw [zaab, if_neg (by omega)]⟩
  simp only [agrow2, hk, if_false]
  rw [if_pos ⟨by simp at hl ⊢; omega, by simp at hl; omega⟩]
  simp
 ·refine ⟨(H.put j .dead).push (.cells true (slT 5) ((l ++ new).map cb)), ?_, by rw [zaad, zaaf], by rw [zaab, zaaf, if_pos rfl], fun b hb hor => by rw [zaab, zaaf, if_neg (by omega), zaan, if_neg (by omega)]⟩
  simp only [agrow2, hk, if_false, h6]
  rw [if_pos ⟨trivial, trivial, by simp, by omega, by omega⟩]
  have : agT (slT 5) 5 0 = slT 5 := by simp [agT]
  simp only [this]
  have e1 : List.take (l.length * 1) (List.drop 0 (l.map cb)) ++ new.map cb = (l ++ new).map cb := by
   rw [List.drop_zero, List.take_of_length_le (by simp), List.map_append]
  rw [e1, List.length_append]
theorem za12 {X : Outer} (hX : X 39 = some cpG) {H0 H : Hp} {i : Nat} {l : List UInt8} (h : Bld H0 H i l) :
    Df Tryd.prog X 39 [.pointer (some ⟨i, 0, none⟩)] H fun _ H' => Bld H0 H' i l ∧ H'.next = H.next := by
 obtain ⟨h1, h2, h3, a, s, h4, h5, h6⟩ := h
 rcases h5 with rfl | rfl
 ·refine Df_ext (r := (.tuple #[], H.put i (.cells true (bxT 68) [.pointer (some ⟨i, 0, none⟩), s]))) hX (by simp [cpG, h4]) ⟨⟨h1, by rw [zaaf]; exact h2, fun b hb => by rw [zaan, if_neg (by omega)]; exact h3 b hb, some ⟨i, 0, none⟩, s, by rw [zaan, if_pos rfl], .inr rfl, ?_⟩, zaaf _ _ _⟩
  exact h6.frame (by rw [zaaf]; exact Nat.le_refl _) fun j _ _ hj => by rw [zaan, if_neg hj]
 ·exact Df_ext (r := (.tuple #[], H)) hX (by simp [cpG, h4]) ⟨⟨h1, h2, h3, _, s, h4, .inr rfl, h6⟩, rfl⟩
theorem zay7 (e : Env) : aeval e (.const .nilIface) = .nilIface := _root_.id rfl
theorem zayd {X : Outer} (hX : X 30 = none) (hXc : X 39 = some cpG) {H0 H : Hp} {i : Nat} {l : List UInt8} {b : UInt8} (h : Bld H0 H i l) (hl : l.length + 1 ≤ 140737488355328) :
    Df Tryd.prog X 30 [.pointer (some ⟨i, 0, none⟩), cb b] H fun r H' => r = .nilIface ∧ Bld H0 H' i (l ++ [b]) := by
 refine zaq6 hX Tryd.func30 rfl (by kernel_rfl) (by show 2 ≤ _; decide) ?_
 simp -dsimp only [↓WP_seq, ↓zabo, ↓zad7, ↓WP_ret, ↓zaeb, ↓zacu, ↓zad8, ↓zad9, ↓zaea, ↓DR_one, ↓DR_non, ↓DR_nil, ↓zad5, ↓zad6, ↓zad3, ↓zad4, ↓DF_nil, ↓Step_guard, ↓Step_move, ↓Step_assign, ↓Step_pick, ↓Step_build, ↓Step_load, ↓Step_nilCheck, ↓Step_binOp, ↓Step_unOp, ↓Step_makeFunc, ↓Step_slice, ↓Step_fieldAddr, ↓Step_field, ↓Step_indexAddr, ↓Step_index, ↓Step_extract, ↓Step_len, ↓Step_box, ↓Step_buildSlice, ↓Step_store, ↓Step_append, ↓Step_call, ↓zabh, ↓zaa2, ↓zaa3, ↓Hold_1, ↓Hold_2, ↓Hold_3, zaag, zaa8, ↓zaah, ↓ae_tmp, ↓ae_int, ↓zacy, ↓zaa1, ↓zacz, ↓zaa0, ↓zac0, zaaq, zaap, zaba, zach, zaed, zaat, zaec, zadx, zaar, zaak, zaa4, bb_ff, bb_ft, bb_tf, bb_tt, zaas, ↓zaa6, ↓zaa5, light, ↓zabb, ↓zaai, ↓zacv, ↓zacw, ↓zabp, ret1, Option.map_some, Option.bind_some, Option.map_none, Option.bind_none, ↓reduceIte, Nat.reduceEqDiff, reduceCtorEq, Bool.false_eq_true, Nat.reduceBEq, decide_true, decide_false, Bool.not_true, Bool.not_false, List.getElem?_toArray, List.getElem?_cons_zero, List.getElem?_cons_succ, Nat.zero_add, Nat.add_zero, Nat.reduceAdd, Nat.reduceMul, Nat.reduceSub, Nat.reduceLT, Nat.reduceLeDiff, and_true, true_and, and_self, List.map_cons, List.map_nil, List.all_cons, List.all_nil, zadh, zadr, zack, zacc, zadi, zadu, zabl, zabi, zad2, zadt, zacm, zace, zacn, zacf, zad1, zads, zad0, zadq, zacl, zacd, zadz, zadp, Bool.and_true, List.drop_zero, List.toList_toArray, List.size_toArray, List.length_cons, List.length_nil, zacg, zaa7, zab4, zaca, zab8, zab7, zab6, zab5, zab3, zacb, zab9, Int.cast_ofNat_Int, beq_self_eq_true, Int.reduceLT, Int.reduceLE, Int.reduceToNat, Int.toNat_natCast, Int.reduceBEq, Int.reduceBNe, Int.reduceSub, Int.reduceAdd, gt_iff_lt, ge_iff_le, Int.lt_irrefl, decide_true, decide_false, Bool.not_eq_true, beq_self_eq_true, bb_ff, bb_ft, bb_tf, bb_tt, bne_self_eq_false, zaab, zaan, zaad, zaaf, cellAt, cellsAt, zaay, acells, alenOf, Nat.le_refl, zabd, zabe, Tryd.results30, fk39]
 refine (za12 hXc h).mono ?_
 rintro r H1 ⟨⟨h1, h2, h3, a, s, h4, h5, h6⟩, _⟩
 generalize hHa : H1.push (.cells true (slT 5) [cb b]) = Ha
 have na : Ha.next = H1.next + 1 := by rw [← hHa, zaad]
 have ga : ∀ j, j < H1.next → Ha.get j = H1.get j := fun j hj => by rw [← hHa, zaab, if_neg (by omega)]
 have h6a : Row H0.next i Ha s l := h6.frame (by omega) fun j _ hj _ => ga j hj
 obtain ⟨Hb, b1, b2, b3, b4⟩ := h6a.grow (new := [b]) (by simp) (by simpa using hl)
 have hbi : Hb.get i = .cells true (bxT 68) [.pointer a, s] := by rw [b4 i (by omega) (.inr rfl), ga i h2, h4]
 have hne : i ≠ H1.next := by omega
 have htk : [cb b].take 1 = [cb b] := rfl
 have ltup : isTup s = false := h6.len.1
 simp only [List.length_singleton, List.map_cons, List.map_nil] at b1
 have gx : Ha.get H1.next = .cells true (slT 5) [cb b] := by rw [← hHa, zaab, if_pos rfl]
 simp -dsimp only [↓WP_seq, ↓zabo, ↓zad7, ↓WP_ret, ↓zaeb, ↓zacu, ↓zad8, ↓zad9, ↓zaea, ↓DR_one, ↓DR_non, ↓DR_nil, ↓zad5, ↓zad6, ↓zad3, ↓zad4, ↓DF_nil, ↓Step_guard, ↓Step_move, ↓Step_assign, ↓Step_pick, ↓Step_build, ↓Step_load, ↓Step_nilCheck, ↓Step_binOp, ↓Step_unOp, ↓Step_makeFunc, ↓Step_slice, ↓Step_fieldAddr, ↓Step_field, ↓Step_indexAddr, ↓Step_index, ↓Step_extract, ↓Step_len, ↓Step_box, ↓Step_buildSlice, ↓Step_store, ↓Step_append, ↓Step_call, ↓zabh, ↓zaa2, ↓zaa3, ↓Hold_1, ↓Hold_2, ↓Hold_3, zaag, zaa8, ↓zaah, ↓ae_tmp, ↓ae_int, ↓zacy, ↓zaa1, ↓zacz, ↓zaa0, ↓zac0, zaaq, zaap, zaba, zach, zaed, zaat, zaec, zadx, zaar, zaak, zaa4, bb_ff, bb_ft, bb_tf, bb_tt, zaas, ↓zaa6, ↓zaa5, light, ↓zabb, ↓zaai, ↓zacv, ↓zacw, ↓zabp, ret1, Option.map_some, Option.bind_some, Option.map_none, Option.bind_none, ↓reduceIte, Nat.reduceEqDiff, reduceCtorEq, Bool.false_eq_true, Nat.reduceBEq, decide_true, decide_false, Bool.not_true, Bool.not_false, List.getElem?_toArray, List.getElem?_cons_zero, List.getElem?_cons_succ, Nat.zero_add, Nat.add_zero, Nat.reduceAdd, Nat.reduceMul, Nat.reduceSub, Nat.reduceLT, Nat.reduceLeDiff, and_true, true_and, and_self, List.map_cons, List.map_nil, List.all_cons, List.all_nil, zadh, zadr, zack, zacc, zadi, zadu, zabl, zabi, zad2, zadt, zacm, zace, zacn, zacf, zad1, zads, zad0, zadq, zacl, zacd, zadz, zadp, Bool.and_true, List.drop_zero, List.toList_toArray, List.size_toArray, List.length_cons, List.length_nil, zacg, zaa7, zab4, zaca, zab8, zab7, zab6, zab5, zab3, zacb, zab9, Int.cast_ofNat_Int, beq_self_eq_true, Int.reduceLT, Int.reduceLE, Int.reduceToNat, Int.toNat_natCast, Int.reduceBEq, Int.reduceBNe, Int.reduceSub, Int.reduceAdd, gt_iff_lt, ge_iff_le, Int.lt_irrefl, decide_true, decide_false, Bool.not_eq_true, beq_self_eq_true, bb_ff, bb_ft, bb_tf, bb_tt, bne_self_eq_false, zaab, zaan, zaad, zaaf, cellAt, cellsAt, zaay, acells, alenOf, Nat.le_refl, zabd, zabe, Tryd.results30, fa68_1, ld66, bs66, gr66, h4, ↓zazk, ↓cb_tup, htk, hHa, gx, b1, so66, hbi, ↓zay7]
 refine ⟨h1, by rw [zaaf]; omega, fun k hk => by rw [zaan, if_neg (by omega), b4 k (by omega) (.inl hk), ga k (by omega), h3 k hk], a, _, by rw [zaan, if_pos rfl]; rfl, h5, ?_⟩
 exact .inr ⟨Ha.next, rfl, by omega, by rw [zaaf]; omega, by omega, by simp, by rw [zaan, if_neg (by omega), b3]⟩
theorem zazi (h : Tryd.prog.cellsOf 5 = 1) {H : Hp} {j : Nat} {l : List UInt8} (h0 : l ≠ []) (hl : l.length ≤ 140737488355328) (hg : H.get j = .cells true (slT 5) (l.map cb)) :
    austr Tryd.prog 79 (.pointer (some ⟨j, 0, none⟩)) (.int .i64 l.length) H = some (.string ⟨l.toArray⟩, H.put j .dead) := by
 have hn : l.length ≠ 0 := by simpa using h0
 unfold austr
 split
 ·rename_i h1 h2; cases h1
 ·rename_i a n h1 h2
  cases h1
  cases h2
  simp only [Tryd.underlying79, hg, h]
  rw [if_pos ⟨trivial, trivial, trivial, trivial, by omega, by simp, by omega⟩]
  rw [Int.toNat_natCast, List.take_of_length_le (by simp), zar7]
  rfl
 ·rename_i h1 h2
  exact absurd rfl (h2 _ _ rfl)
theorem za0v : Tryd.prog.cellsOf 5 = 1 := by kernel_rfl
theorem zao5 {X : Outer} (hX : X 31 = none) {H0 H : Hp} {i : Nat} {l : List UInt8} (h : Bld H0 H i l) (hl : l.length ≤ 140737488355328) :
    Df Tryd.prog X 31 [.pointer (some ⟨i, 0, none⟩)] H fun r H' => r = .string ⟨l.toArray⟩ ∧ H0.next ≤ H'.next ∧ ∀ b, b < H0.next → H'.get b = H0.get b := by
 obtain ⟨h1, h2, h3, a, s, h4, h5, h6⟩ := h
 refine zaq6 hX Tryd.func31 rfl (by kernel_rfl) (by show 1 ≤ _; decide) ?_
 rcases h6 with ⟨rfl, rfl⟩ | ⟨j, rfl, g2, g3, g4, g5, g6⟩
 ·have hu : austr Tryd.prog 79 (.pointer none) (.int .i64 0) H = some (.string .empty, H) := by simp [austr]
  have hn : alen Tryd.prog 66 (.slice none 0 0) H = some (.int .i64 0) := ln66 H none 0 0
  simp -dsimp only [↓WP_seq, ↓zabo, ↓zad7, ↓WP_ret, ↓zaeb, ↓zacu, ↓zad8, ↓zad9, ↓zaea, ↓DR_one, ↓DR_non, ↓DR_nil, ↓zad5, ↓zad6, ↓zad3, ↓zad4, ↓DF_nil, ↓Step_guard, ↓Step_move, ↓Step_assign, ↓Step_pick, ↓Step_build, ↓Step_load, ↓Step_nilCheck, ↓Step_binOp, ↓Step_unOp, ↓Step_makeFunc, ↓Step_slice, ↓Step_fieldAddr, ↓Step_field, ↓Step_indexAddr, ↓Step_index, ↓Step_extract, ↓Step_len, ↓Step_box, ↓Step_buildSlice, ↓Step_store, ↓Step_append, ↓Step_call, ↓zabh, ↓zaa2, ↓zaa3, ↓Hold_1, ↓Hold_2, ↓Hold_3, zaag, zaa8, ↓zaah, ↓ae_tmp, ↓ae_int, ↓zacy, ↓zaa1, ↓zacz, ↓zaa0, ↓zac0, zaaq, zaap, zaba, zach, zaed, zaat, zaec, zadx, zaar, zaak, zaa4, bb_ff, bb_ft, bb_tf, bb_tt, zaas, ↓zaa6, ↓zaa5, light, ↓zabb, ↓zaai, ↓zacv, ↓zacw, ↓zabp, ret1, Option.map_some, Option.bind_some, Option.map_none, Option.bind_none, ↓reduceIte, Nat.reduceEqDiff, reduceCtorEq, Bool.false_eq_true, Nat.reduceBEq, decide_true, decide_false, Bool.not_true, Bool.not_false, List.getElem?_toArray, List.getElem?_cons_zero, List.getElem?_cons_succ, Nat.zero_add, Nat.add_zero, Nat.reduceAdd, Nat.reduceMul, Nat.reduceSub, Nat.reduceLT, Nat.reduceLeDiff, and_true, true_and, and_self, List.map_cons, List.map_nil, List.all_cons, List.all_nil, zadh, zadr, zack, zacc, zadi, zadu, zabl, zabi, zad2, zadt, zacm, zace, zacn, zacf, zad1, zads, zad0, zadq, zacl, zacd, zadz, zadp, Bool.and_true, List.drop_zero, List.toList_toArray, List.size_toArray, List.length_cons, List.length_nil, zacg, zaa7, zab4, zaca, zab8, zab7, zab6, zab5, zab3, zacb, zab9, Int.cast_ofNat_Int, beq_self_eq_true, Int.reduceLT, Int.reduceLE, Int.reduceToNat, Int.toNat_natCast, Int.reduceBEq, Int.reduceBNe, Int.reduceSub, Int.reduceAdd, gt_iff_lt, ge_iff_le, Int.lt_irrefl, decide_true, decide_false, Bool.not_eq_true, beq_self_eq_true, bb_ff, bb_ft, bb_tf, bb_tt, bne_self_eq_false, zaab, zaan, zaad, zaaf, cellAt, cellsAt, zaay, acells, alenOf, Nat.le_refl, zabd, zabe, Tryd.results31]
  refine Dc_any [[], [], [], [], [], [], [], [], [], [], [], []] (by kernel_rfl) (by kernel_rfl) ?_
  simp -dsimp only [↓WP_seq, ↓zabo, ↓zad7, ↓WP_ret, ↓zaeb, ↓zacu, ↓zad8, ↓zad9, ↓zaea, ↓DR_one, ↓DR_non, ↓DR_nil, ↓zad5, ↓zad6, ↓zad3, ↓zad4, ↓DF_nil, ↓Step_guard, ↓Step_move, ↓Step_assign, ↓Step_pick, ↓Step_build, ↓Step_load, ↓Step_nilCheck, ↓Step_binOp, ↓Step_unOp, ↓Step_makeFunc, ↓Step_slice, ↓Step_fieldAddr, ↓Step_field, ↓Step_indexAddr, ↓Step_index, ↓Step_extract, ↓Step_len, ↓Step_box, ↓Step_buildSlice, ↓Step_store, ↓Step_append, ↓Step_call, ↓zabh, ↓zaa2, ↓zaa3, ↓Hold_1, ↓Hold_2, ↓Hold_3, zaag, zaa8, ↓zaah, ↓ae_tmp, ↓ae_int, ↓zacy, ↓zaa1, ↓zacz, ↓zaa0, ↓zac0, zaaq, zaap, zaba, zach, zaed, zaat, zaec, zadx, zaar, zaak, zaa4, bb_ff, bb_ft, bb_tf, bb_tt, zaas, ↓zaa6, ↓zaa5, light, ↓zabb, ↓zaai, ↓zacv, ↓zacw, ↓zabp, ret1, Option.map_some, Option.bind_some, Option.map_none, Option.bind_none, ↓reduceIte, Nat.reduceEqDiff, reduceCtorEq, Bool.false_eq_true, Nat.reduceBEq, decide_true, decide_false, Bool.not_true, Bool.not_false, List.getElem?_toArray, List.getElem?_cons_zero, List.getElem?_cons_succ, Nat.zero_add, Nat.add_zero, Nat.reduceAdd, Nat.reduceMul, Nat.reduceSub, Nat.reduceLT, Nat.reduceLeDiff, and_true, true_and, and_self, List.map_cons, List.map_nil, List.all_cons, List.all_nil, zadh, zadr, zack, zacc, zadi, zadu, zabl, zabi, zad2, zadt, zacm, zace, zacn, zacf, zad1, zads, zad0, zadq, zacl, zacd, zadz, zadp, Bool.and_true, List.drop_zero, List.toList_toArray, List.size_toArray, List.length_cons, List.length_nil, zacg, zaa7, zab4, zaca, zab8, zab7, zab6, zab5, zab3, zacb, zab9, Int.cast_ofNat_Int, beq_self_eq_true, Int.reduceLT, Int.reduceLE, Int.reduceToNat, Int.toNat_natCast, Int.reduceBEq, Int.reduceBNe, Int.reduceSub, Int.reduceAdd, gt_iff_lt, ge_iff_le, Int.lt_irrefl, decide_true, decide_false, Bool.not_eq_true, beq_self_eq_true, bb_ff, bb_ft, bb_tf, bb_tt, bne_self_eq_false, zaxa, zass, zasr, zaoo, List.reverse_cons, List.reverse_nil, List.nil_append, List.cons_append, zaoj, zasp, zajs, List.cons_ne_nil, zaab, zaan, zaad, zaaf, cellAt, cellsAt, zaay, acells, alenOf, Nat.le_refl, zabd, zabe, Tryd.results31, h4, fa68_1, ld66, Step_ustr, Step_data, zand, adata, hu, hn]
  exact ⟨rfl, by omega, h3⟩
 ·have hu := zazi za0v g5 hl g6
  have hj : j < H.next := g3
  have hl0 : l.length ≠ 0 := by simpa using g5
  obtain ⟨k, hk⟩ : ∃ k, l.length = k + 1 := ⟨l.length - 1, by omega⟩
  have hd : adata (.slice (some ⟨j, 0, none⟩) l.length 1) = some (.pointer (some ⟨j, 0, none⟩)) := by rw [hk]; rfl
  have hn : alen Tryd.prog 66 (.slice (some ⟨j, 0, none⟩) l.length 1) H = some (.int .i64 l.length) := ln66 H _ _ _
  simp -dsimp only [↓WP_seq, ↓zabo, ↓zad7, ↓WP_ret, ↓zaeb, ↓zacu, ↓zad8, ↓zad9, ↓zaea, ↓DR_one, ↓DR_non, ↓DR_nil, ↓zad5, ↓zad6, ↓zad3, ↓zad4, ↓DF_nil, ↓Step_guard, ↓Step_move, ↓Step_assign, ↓Step_pick, ↓Step_build, ↓Step_load, ↓Step_nilCheck, ↓Step_binOp, ↓Step_unOp, ↓Step_makeFunc, ↓Step_slice, ↓Step_fieldAddr, ↓Step_field, ↓Step_indexAddr, ↓Step_index, ↓Step_extract, ↓Step_len, ↓Step_box, ↓Step_buildSlice, ↓Step_store, ↓Step_append, ↓Step_call, ↓zabh, ↓zaa2, ↓zaa3, ↓Hold_1, ↓Hold_2, ↓Hold_3, zaag, zaa8, ↓zaah, ↓ae_tmp, ↓ae_int, ↓zacy, ↓zaa1, ↓zacz, ↓zaa0, ↓zac0, zaaq, zaap, zaba, zach, zaed, zaat, zaec, zadx, zaar, zaak, zaa4, bb_ff, bb_ft, bb_tf, bb_tt, zaas, ↓zaa6, ↓zaa5, light, ↓zabb, ↓zaai, ↓zacv, ↓zacw, ↓zabp, ret1, Option.map_some, Option.bind_some, Option.map_none, Option.bind_none, ↓reduceIte, Nat.reduceEqDiff, reduceCtorEq, Bool.false_eq_true, Nat.reduceBEq, decide_true, decide_false, Bool.not_true, Bool.not_false, List.getElem?_toArray, List.getElem?_cons_zero, List.getElem?_cons_succ, Nat.zero_add, Nat.add_zero, Nat.reduceAdd, Nat.reduceMul, Nat.reduceSub, Nat.reduceLT, Nat.reduceLeDiff, and_true, true_and, and_self, List.map_cons, List.map_nil, List.all_cons, List.all_nil, zadh, zadr, zack, zacc, zadi, zadu, zabl, zabi, zad2, zadt, zacm, zace, zacn, zacf, zad1, zads, zad0, zadq, zacl, zacd, zadz, zadp, Bool.and_true, List.drop_zero, List.toList_toArray, List.size_toArray, List.length_cons, List.length_nil, zacg, zaa7, zab4, zaca, zab8, zab7, zab6, zab5, zab3, zacb, zab9, Int.cast_ofNat_Int, beq_self_eq_true, Int.reduceLT, Int.reduceLE, Int.reduceToNat, Int.toNat_natCast, Int.reduceBEq, Int.reduceBNe, Int.reduceSub, Int.reduceAdd, gt_iff_lt, ge_iff_le, Int.lt_irrefl, decide_true, decide_false, Bool.not_eq_true, beq_self_eq_true, bb_ff, bb_ft, bb_tf, bb_tt, bne_self_eq_false, zaab, zaan, zaad, zaaf, cellAt, cellsAt, zaay, acells, alenOf, Nat.le_refl, zabd, zabe, Tryd.results31]
  refine Dc_any [[], [], [], [], [], [], [], [], [], [], [], []] (by kernel_rfl) (by kernel_rfl) ?_
  simp -dsimp only [↓WP_seq, ↓zabo, ↓zad7, ↓WP_ret, ↓zaeb, ↓zacu, ↓zad8, ↓zad9, ↓zaea, ↓DR_one, ↓DR_non, ↓DR_nil, ↓zad5, ↓zad6, ↓zad3, ↓zad4, ↓DF_nil, ↓Step_guard, ↓Step_move, ↓Step_assign, ↓Step_pick, ↓Step_build, ↓Step_load, ↓Step_nilCheck, ↓Step_binOp, ↓Step_unOp, ↓Step_makeFunc, ↓Step_slice, ↓Step_fieldAddr, ↓Step_field, ↓Step_indexAddr, ↓Step_index, ↓Step_extract, ↓Step_len, ↓Step_box, ↓Step_buildSlice, ↓Step_store, ↓Step_append, ↓Step_call, ↓zabh, ↓zaa2, ↓zaa3, ↓Hold_1, ↓Hold_2, ↓Hold_3, zaag, zaa8, ↓zaah, ↓ae_tmp, ↓ae_int, ↓zacy, ↓zaa1, ↓zacz, ↓zaa0, ↓zac0, zaaq, zaap, zaba, zach, zaed, zaat, zaec, zadx, zaar, zaak, zaa4, bb_ff, bb_ft, bb_tf, bb_tt, zaas, ↓zaa6, ↓zaa5, light, ↓zabb, ↓zaai, ↓zacv, ↓zacw, ↓zabp, ret1, Option.map_some, Option.bind_some, Option.map_none, Option.bind_none, ↓reduceIte, Nat.reduceEqDiff, reduceCtorEq, Bool.false_eq_true, Nat.reduceBEq, decide_true, decide_false, Bool.not_true, Bool.not_false, List.getElem?_toArray, List.getElem?_cons_zero, List.getElem?_cons_succ, Nat.zero_add, Nat.add_zero, Nat.reduceAdd, Nat.reduceMul, Nat.reduceSub, Nat.reduceLT, Nat.reduceLeDiff, and_true, true_and, and_self, List.map_cons, List.map_nil, List.all_cons, List.all_nil, zadh, zadr, zack, zacc, zadi, zadu, zabl, zabi, zad2, zadt, zacm, zace, zacn, zacf, zad1, zads, zad0, zadq, zacl, zacd, zadz, zadp, Bool.and_true, List.drop_zero, List.toList_toArray, List.size_toArray, List.length_cons, List.length_nil, zacg, zaa7, zab4, zaca, zab8, zab7, zab6, zab5, zab3, zacb, zab9, Int.cast_ofNat_Int, beq_self_eq_true, Int.reduceLT, Int.reduceLE, Int.reduceToNat, Int.toNat_natCast, Int.reduceBEq, Int.reduceBNe, Int.reduceSub, Int.reduceAdd, gt_iff_lt, ge_iff_le, Int.lt_irrefl, decide_true, decide_false, Bool.not_eq_true, beq_self_eq_true, bb_ff, bb_ft, bb_tf, bb_tt, bne_self_eq_false, zaxa, zass, zasr, zaoo, List.reverse_cons, List.reverse_nil, List.nil_append, List.cons_append, zaoj, zasp, zajs, List.cons_ne_nil, zaab, zaan, zaad, zaaf, cellAt, cellsAt, zaay, acells, alenOf, Nat.le_refl, zabd, zabe, Tryd.results31, h4, fa68_1, ld66, Step_ustr, Step_data, zand, hd, hu, hn]
  exact ⟨by omega, fun b hb => by rw [if_neg (by omega), h3 b hb]⟩
end Go.Proofs.YtliemjbafgnnbaaDoor.Abs
/- What stands between two quotes: the program's walk over the plain heap, with strings.Builder. -/
namespace Go.Proofs.YtliemjbafgnnbaaDoor.Abs
open Go Go.RowKit
theorem zauq {H : Hp} : Bld H (H.push (.cells true (bxT 68) [.pointer none, .slice none 0 0])) H.next [] :=
 ⟨Nat.le_refl _, by rw [zaad]; omega, fun b hb => by rw [zaab, if_neg (by omega)], none, .slice none 0 0, by rw [zaab, if_pos rfl], .inl rfl, .inl ⟨rfl, rfl⟩⟩
attribute [local irreducible] Hold DR DF Df Dc WP With
theorem za0k {X : Outer} (hX : X 25 = none) (hXw : X 30 = none) (hXc : X 39 = some cpG) (hXs : X 31 = none) {H : Hp} {s : ByteArray} {k : Nat} (hk : k < s.size) (hs : s.size ≤ 1000000) :
    Df Tryd.prog X 25 [.string s, .int .i64 k] H fun r H' => r = quoV (quoF s s.size (k + 1) []) ∧ H.next ≤ H'.next ∧ ∀ b, b < H.next → H'.get b = H.get b := by
 refine zaq6 hX Tryd.func25 rfl (by kernel_rfl) (by show 2 ≤ _; decide) ?_
 have w1 : IntKind.i64.wrap ((k : Int) + 1) = (k : Int) + 1 := zabt (by omega) (by omega)
 simp -dsimp only [↓WP_seq, ↓zabo, ↓zad7, ↓WP_ret, ↓zaeb, ↓zacu, ↓zad8, ↓zad9, ↓zaea, ↓DR_one, ↓DR_non, ↓DR_nil, ↓zad5, ↓zad6, ↓zad3, ↓zad4, ↓DF_nil, ↓Step_guard, ↓Step_move, ↓Step_assign, ↓Step_pick, ↓Step_build, ↓Step_load, ↓Step_nilCheck, ↓Step_binOp, ↓Step_unOp, ↓Step_makeFunc, ↓Step_slice, ↓Step_fieldAddr, ↓Step_field, ↓Step_indexAddr, ↓Step_index, ↓Step_extract, ↓Step_len, ↓Step_box, ↓Step_buildSlice, ↓Step_store, ↓Step_append, ↓Step_call, ↓zabh, ↓zaa2, ↓zaa3, ↓Hold_1, ↓Hold_2, ↓Hold_3, zaag, zaa8, ↓zaah, ↓ae_tmp, ↓ae_int, ↓zacy, ↓zaa1, ↓zacz, ↓zaa0, ↓zac0, zaaq, zaap, zaba, zach, zaed, zaat, zaec, zadx, zaar, zaak, zaa4, bb_ff, bb_ft, bb_tf, bb_tt, zaas, ↓zaa6, ↓zaa5, light, ↓zabb, ↓zaai, ↓zacv, ↓zacw, ↓zabp, ret1, Option.map_some, Option.bind_some, Option.map_none, Option.bind_none, ↓reduceIte, Nat.reduceEqDiff, reduceCtorEq, Bool.false_eq_true, Nat.reduceBEq, decide_true, decide_false, Bool.not_true, Bool.not_false, List.getElem?_toArray, List.getElem?_cons_zero, List.getElem?_cons_succ, Nat.zero_add, Nat.add_zero, Nat.reduceAdd, Nat.reduceMul, Nat.reduceSub, Nat.reduceLT, Nat.reduceLeDiff, and_true, true_and, and_self, List.map_cons, List.map_nil, List.all_cons, List.all_nil, zadh, zadr, zack, zacc, zadi, zadu, zabl, zabi, zad2, zadt, zacm, zace, zacn, zacf, zad1, zads, zad0, zadq, zacl, zacd, zadz, zadp, Bool.and_true, List.drop_zero, List.toList_toArray, List.size_toArray, List.length_cons, List.length_nil, zacg, zaa7, zab4, zaca, zab8, zab7, zab6, zab5, zab3, zacb, zab9, Int.cast_ofNat_Int, beq_self_eq_true, Int.reduceLT, Int.reduceLE, Int.reduceToNat, Int.toNat_natCast, Int.reduceBEq, Int.reduceBNe, Int.reduceSub, Int.reduceAdd, gt_iff_lt, ge_iff_le, Int.lt_irrefl, decide_true, decide_false, Bool.not_eq_true, beq_self_eq_true, bb_ff, bb_ft, bb_tf, bb_tt, bne_self_eq_false, zaab, zaan, zaad, zaaf, cellAt, cellsAt, zaay, acells, alenOf, Nat.le_refl, zabd, zabe, Tryd.results25, al68, w1]
 refine zawr (fun m e Hc => ∃ (q : Nat) (acc : List UInt8), q ≤ s.size ∧ s.size < q + m ∧ quoF s m q acc = quoF s s.size (k + 1) [] ∧ acc.length ≤ q ∧ eget e 0 = .string s ∧ eget e 1 = .int .i64 q ∧ eget e 7 = .pointer (some ⟨H.next, 0, none⟩) ∧ Bld H Hc H.next acc) s.size ?_ ?_
 ·refine ⟨k + 1, [], by omega, by omega, rfl, by simp, ?_, ?_, ?_, zauq⟩
  all_goals simp only [↓zaah, ↓ae_tmp, ↓ae_int, ↓zacy, ↓zaa1, ↓zacz, ↓zaa0, ↓zac0, zaaq, zaap, zaba, ↓reduceIte, Nat.reduceEqDiff, reduceCtorEq, Bool.false_eq_true, Nat.reduceBEq, decide_true, decide_false, Bool.not_true, Bool.not_false, List.getElem?_toArray, List.getElem?_cons_zero, List.getElem?_cons_succ, Nat.zero_add, Nat.add_zero, Nat.reduceAdd, Nat.reduceMul, Nat.reduceSub, Nat.reduceLT, Nat.reduceLeDiff, and_true, true_and, and_self]
  rfl
 ·rintro m e Hc ⟨q, acc, hq, hm, hF, hacc, e0, e1, e7, hb⟩
  refine WP_Dc _ _ _ _ ?_
  have hdec : ∀ b : Bool, decide ((q : Int) < (s.size : Int)) = b ↔ decide (q < s.size) = b := fun b => by simp
  rcases Nat.lt_or_ge q s.size with hlt | hge
  ·obtain ⟨m, rfl⟩ : ∃ n, m = n + 1 := ⟨m - 1, by omega⟩
   have hqi : (q : Int) < (s.size : Int) := by omega
   have h0 : (0 : Int) ≤ (q : Int) := by omega
   obtain ⟨c, hc⟩ : ∃ c, s[q]? = some c := ⟨s[q], getElem?_pos s q hlt⟩
   have w2 : IntKind.i64.wrap ((q : Int) + 1) = (q : Int) + 1 := zabt (by omega) (by omega)
   by_cases hc4 : c = 34
   ·subst hc4
    have hF' : quoF s (m + 1) q acc = if s[q + 1]? = some 34 then quoF s m (q + 2) (acc ++ [34]) else some (acc, q + 1) := by simp only [quoF, hc, if_true]
    rw [hF'] at hF
    have h1' : (0 : Int) ≤ (q : Int) + 1 := by omega
    have hn1 : ((q : Int) + 1).toNat = q + 1 := by omega
    have lit34 : ((34 : UInt8).toNat : Int) = 34 := rfl
    by_cases he : q + 1 = s.size
    ·have hbe : (((q : Int) + 1) == (s.size : Int)) = true := by rw [beq_iff_eq]; omega
     have : s[q + 1]? = none := getElem?_neg s (q + 1) (by omega)
     rw [this, if_neg (by simp)] at hF
     simp -dsimp only [↓WP_seq, ↓zabo, ↓zad7, ↓WP_ret, ↓zaeb, ↓zacu, ↓zad8, ↓zad9, ↓zaea, ↓DR_one, ↓DR_non, ↓DR_nil, ↓zad5, ↓zad6, ↓zad3, ↓zad4, ↓DF_nil, ↓Step_guard, ↓Step_move, ↓Step_assign, ↓Step_pick, ↓Step_build, ↓Step_load, ↓Step_nilCheck, ↓Step_binOp, ↓Step_unOp, ↓Step_makeFunc, ↓Step_slice, ↓Step_fieldAddr, ↓Step_field, ↓Step_indexAddr, ↓Step_index, ↓Step_extract, ↓Step_len, ↓Step_box, ↓Step_buildSlice, ↓Step_store, ↓Step_append, ↓Step_call, ↓zabh, ↓zaa2, ↓zaa3, ↓Hold_1, ↓Hold_2, ↓Hold_3, zaag, zaa8, ↓zaah, ↓ae_tmp, ↓ae_int, ↓zacy, ↓zaa1, ↓zacz, ↓zaa0, ↓zac0, zaaq, zaap, zaba, zach, zaed, zaat, zaec, zadx, zaar, zaak, zaa4, bb_ff, bb_ft, bb_tf, bb_tt, zaas, ↓zaa6, ↓zaa5, light, ↓zabb, ↓zaai, ↓zacv, ↓zacw, ↓zabp, ret1, Option.map_some, Option.bind_some, Option.map_none, Option.bind_none, ↓reduceIte, Nat.reduceEqDiff, reduceCtorEq, Bool.false_eq_true, Nat.reduceBEq, decide_true, decide_false, Bool.not_true, Bool.not_false, List.getElem?_toArray, List.getElem?_cons_zero, List.getElem?_cons_succ, Nat.zero_add, Nat.add_zero, Nat.reduceAdd, Nat.reduceMul, Nat.reduceSub, Nat.reduceLT, Nat.reduceLeDiff, and_true, true_and, and_self, List.map_cons, List.map_nil, List.all_cons, List.all_nil, zadh, zadr, zack, zacc, zadi, zadu, zabl, zabi, zad2, zadt, zacm, zace, zacn, zacf, zad1, zads, zad0, zadq, zacl, zacd, zadz, zadp, Bool.and_true, List.drop_zero, List.toList_toArray, List.size_toArray, List.length_cons, List.length_nil, zacg, zaa7, zab4, zaca, zab8, zab7, zab6, zab5, zab3, zacb, zab9, Int.cast_ofNat_Int, beq_self_eq_true, Int.reduceLT, Int.reduceLE, Int.reduceToNat, Int.toNat_natCast, Int.reduceBEq, Int.reduceBNe, Int.reduceSub, Int.reduceAdd, gt_iff_lt, ge_iff_le, Int.lt_irrefl, decide_true, decide_false, Bool.not_eq_true, beq_self_eq_true, bb_ff, bb_ft, bb_tf, bb_tt, bne_self_eq_false, zaab, zaan, zaad, zaaf, cellAt, cellsAt, zaay, acells, alenOf, Nat.le_refl, zabd, zabe, Tryd.results25, e0, e1, e7, ln9, ix9, hqi, h0, hc, w2, hbe, lit34, fk31]
     refine (zao5 hXs hb (by omega)).mono ?_
     rintro r H2 ⟨rfl, n2, g2⟩
     simp -dsimp only [↓WP_seq, ↓zabo, ↓zad7, ↓WP_ret, ↓zaeb, ↓zacu, ↓zad8, ↓zad9, ↓zaea, ↓DR_one, ↓DR_non, ↓DR_nil, ↓zad5, ↓zad6, ↓zad3, ↓zad4, ↓DF_nil, ↓Step_guard, ↓Step_move, ↓Step_assign, ↓Step_pick, ↓Step_build, ↓Step_load, ↓Step_nilCheck, ↓Step_binOp, ↓Step_unOp, ↓Step_makeFunc, ↓Step_slice, ↓Step_fieldAddr, ↓Step_field, ↓Step_indexAddr, ↓Step_index, ↓Step_extract, ↓Step_len, ↓Step_box, ↓Step_buildSlice, ↓Step_store, ↓Step_append, ↓Step_call, ↓zabh, ↓zaa2, ↓zaa3, ↓Hold_1, ↓Hold_2, ↓Hold_3, zaag, zaa8, ↓zaah, ↓ae_tmp, ↓ae_int, ↓zacy, ↓zaa1, ↓zacz, ↓zaa0, ↓zac0, zaaq, zaap, zaba, zach, zaed, zaat, zaec, zadx, zaar, zaak, zaa4, bb_ff, bb_ft, bb_tf, bb_tt, zaas, ↓zaa6, ↓zaa5, light, ↓zabb, ↓zaai, ↓zacv, ↓zacw, ↓zabp, ret1, Option.map_some, Option.bind_some, Option.map_none, Option.bind_none, ↓reduceIte, Nat.reduceEqDiff, reduceCtorEq, Bool.false_eq_true, Nat.reduceBEq, decide_true, decide_false, Bool.not_true, Bool.not_false, List.getElem?_toArray, List.getElem?_cons_zero, List.getElem?_cons_succ, Nat.zero_add, Nat.add_zero, Nat.reduceAdd, Nat.reduceMul, Nat.reduceSub, Nat.reduceLT, Nat.reduceLeDiff, and_true, true_and, and_self, List.map_cons, List.map_nil, List.all_cons, List.all_nil, zadh, zadr, zack, zacc, zadi, zadu, zabl, zabi, zad2, zadt, zacm, zace, zacn, zacf, zad1, zads, zad0, zadq, zacl, zacd, zadz, zadp, Bool.and_true, List.drop_zero, List.toList_toArray, List.size_toArray, List.length_cons, List.length_nil, zacg, zaa7, zab4, zaca, zab8, zab7, zab6, zab5, zab3, zacb, zab9, Int.cast_ofNat_Int, beq_self_eq_true, Int.reduceLT, Int.reduceLE, Int.reduceToNat, Int.toNat_natCast, Int.reduceBEq, Int.reduceBNe, Int.reduceSub, Int.reduceAdd, gt_iff_lt, ge_iff_le, Int.lt_irrefl, decide_true, decide_false, Bool.not_eq_true, beq_self_eq_true, bb_ff, bb_ft, bb_tf, bb_tt, bne_self_eq_false, Tryd.results25, e0, e1, e7, w2, hbe]
     refine ⟨?_, n2, g2⟩
     rw [← hF]
     simp only [quoV]
     rfl
    ·have hbe : (((q : Int) + 1) == (s.size : Int)) = false := by rw [beq_eq_false_iff_ne]; omega
     obtain ⟨d, hd⟩ : ∃ d, s[q + 1]? = some d := ⟨s[q + 1], getElem?_pos s (q + 1) (by omega)⟩
     by_cases hd4 : d = 34
     ·subst hd4
      rw [hd, if_pos rfl] at hF
      have w3 : IntKind.i64.wrap ((q : Int) + 1 + 1) = (q : Int) + 1 + 1 := zabt (by omega) (by omega)
      simp -dsimp only [↓WP_seq, ↓zabo, ↓zad7, ↓WP_ret, ↓zaeb, ↓zacu, ↓zad8, ↓zad9, ↓zaea, ↓DR_one, ↓DR_non, ↓DR_nil, ↓zad5, ↓zad6, ↓zad3, ↓zad4, ↓DF_nil, ↓Step_guard, ↓Step_move, ↓Step_assign, ↓Step_pick, ↓Step_build, ↓Step_load, ↓Step_nilCheck, ↓Step_binOp, ↓Step_unOp, ↓Step_makeFunc, ↓Step_slice, ↓Step_fieldAddr, ↓Step_field, ↓Step_indexAddr, ↓Step_index, ↓Step_extract, ↓Step_len, ↓Step_box, ↓Step_buildSlice, ↓Step_store, ↓Step_append, ↓Step_call, ↓zabh, ↓zaa2, ↓zaa3, ↓Hold_1, ↓Hold_2, ↓Hold_3, zaag, zaa8, ↓zaah, ↓ae_tmp, ↓ae_int, ↓zacy, ↓zaa1, ↓zacz, ↓zaa0, ↓zac0, zaaq, zaap, zaba, zach, zaed, zaat, zaec, zadx, zaar, zaak, zaa4, bb_ff, bb_ft, bb_tf, bb_tt, zaas, ↓zaa6, ↓zaa5, light, ↓zabb, ↓zaai, ↓zacv, ↓zacw, ↓zabp, ret1, Option.map_some, Option.bind_some, Option.map_none, Option.bind_none, ↓reduceIte, Nat.reduceEqDiff, reduceCtorEq, Bool.false_eq_true, Nat.reduceBEq, decide_true, decide_false, Bool.not_true, Bool.not_false, List.getElem?_toArray, List.getElem?_cons_zero, List.getElem?_cons_succ, Nat.zero_add, Nat.add_zero, Nat.reduceAdd, Nat.reduceMul, Nat.reduceSub, Nat.reduceLT, Nat.reduceLeDiff, and_true, true_and, and_self, List.map_cons, List.map_nil, List.all_cons, List.all_nil, zadh, zadr, zack, zacc, zadi, zadu, zabl, zabi, zad2, zadt, zacm, zace, zacn, zacf, zad1, zads, zad0, zadq, zacl, zacd, zadz, zadp, Bool.and_true, List.drop_zero, List.toList_toArray, List.size_toArray, List.length_cons, List.length_nil, zacg, zaa7, zab4, zaca, zab8, zab7, zab6, zab5, zab3, zacb, zab9, Int.cast_ofNat_Int, beq_self_eq_true, Int.reduceLT, Int.reduceLE, Int.reduceToNat, Int.toNat_natCast, Int.reduceBEq, Int.reduceBNe, Int.reduceSub, Int.reduceAdd, gt_iff_lt, ge_iff_le, Int.lt_irrefl, decide_true, decide_false, Bool.not_eq_true, beq_self_eq_true, bb_ff, bb_ft, bb_tf, bb_tt, bne_self_eq_false, zaab, zaan, zaad, zaaf, cellAt, cellsAt, zaay, acells, alenOf, Nat.le_refl, zabd, zabe, Tryd.results25, e0, e1, e7, ln9, ix9, hqi, h0, hc, w2, hbe, lit34, fk30, h1', hn1, hd]
      refine (zayd (b := 34) hXw hXc hb (by omega)).mono ?_
      rintro r H2 ⟨rfl, hb2⟩
      simp -dsimp only [↓WP_seq, ↓zabo, ↓zad7, ↓WP_ret, ↓zaeb, ↓zacu, ↓zad8, ↓zad9, ↓zaea, ↓DR_one, ↓DR_non, ↓DR_nil, ↓zad5, ↓zad6, ↓zad3, ↓zad4, ↓DF_nil, ↓Step_guard, ↓Step_move, ↓Step_assign, ↓Step_pick, ↓Step_build, ↓Step_load, ↓Step_nilCheck, ↓Step_binOp, ↓Step_unOp, ↓Step_makeFunc, ↓Step_slice, ↓Step_fieldAddr, ↓Step_field, ↓Step_indexAddr, ↓Step_index, ↓Step_extract, ↓Step_len, ↓Step_box, ↓Step_buildSlice, ↓Step_store, ↓Step_append, ↓Step_call, ↓zabh, ↓zaa2, ↓zaa3, ↓Hold_1, ↓Hold_2, ↓Hold_3, zaag, zaa8, ↓zaah, ↓ae_tmp, ↓ae_int, ↓zacy, ↓zaa1, ↓zacz, ↓zaa0, ↓zac0, zaaq, zaap, zaba, zach, zaed, zaat, zaec, zadx, zaar, zaak, zaa4, bb_ff, bb_ft, bb_tf, bb_tt, zaas, ↓zaa6, ↓zaa5, light, ↓zabb, ↓zaai, ↓zacv, ↓zacw, ↓zabp, ret1, Option.map_some, Option.bind_some, Option.map_none, Option.bind_none, ↓reduceIte, Nat.reduceEqDiff, reduceCtorEq, Bool.false_eq_true, Nat.reduceBEq, decide_true, decide_false, Bool.not_true, Bool.not_false, List.getElem?_toArray, List.getElem?_cons_zero, List.getElem?_cons_succ, Nat.zero_add, Nat.add_zero, Nat.reduceAdd, Nat.reduceMul, Nat.reduceSub, Nat.reduceLT, Nat.reduceLeDiff, and_true, true_and, and_self, List.map_cons, List.map_nil, List.all_cons, List.all_nil, zadh, zadr, zack, zacc, zadi, zadu, zabl, zabi, zad2, zadt, zacm, zace, zacn, zacf, zad1, zads, zad0, zadq, zacl, zacd, zadz, zadp, Bool.and_true, List.drop_zero, List.toList_toArray, List.size_toArray, List.length_cons, List.length_nil, zacg, zaa7, zab4, zaca, zab8, zab7, zab6, zab5, zab3, zacb, zab9, Int.cast_ofNat_Int, beq_self_eq_true, Int.reduceLT, Int.reduceLE, Int.reduceToNat, Int.toNat_natCast, Int.reduceBEq, Int.reduceBNe, Int.reduceSub, Int.reduceAdd, gt_iff_lt, ge_iff_le, Int.lt_irrefl, decide_true, decide_false, Bool.not_eq_true, beq_self_eq_true, bb_ff, bb_ft, bb_tf, bb_tt, bne_self_eq_false, Tryd.results25, e0, e1, e7, w2, w3]
      refine ⟨m, by omega, q + 2, acc ++ [34], by omega, by omega, hF, by simp; omega, ?_⟩
      first | exact hb2 | exact ⟨by congr 1, hb2⟩
     ·have hne : ((d.toNat : Int) == 34) = false := by rw [beq_eq_false_iff_ne]; exact fun h => hd4 ((u8_lit d).1 h)
      rw [hd, if_neg (by simpa using hd4)] at hF
      simp -dsimp only [↓WP_seq, ↓zabo, ↓zad7, ↓WP_ret, ↓zaeb, ↓zacu, ↓zad8, ↓zad9, ↓zaea, ↓DR_one, ↓DR_non, ↓DR_nil, ↓zad5, ↓zad6, ↓zad3, ↓zad4, ↓DF_nil, ↓Step_guard, ↓Step_move, ↓Step_assign, ↓Step_pick, ↓Step_build, ↓Step_load, ↓Step_nilCheck, ↓Step_binOp, ↓Step_unOp, ↓Step_makeFunc, ↓Step_slice, ↓Step_fieldAddr, ↓Step_field, ↓Step_indexAddr, ↓Step_index, ↓Step_extract, ↓Step_len, ↓Step_box, ↓Step_buildSlice, ↓Step_store, ↓Step_append, ↓Step_call, ↓zabh, ↓zaa2, ↓zaa3, ↓Hold_1, ↓Hold_2, ↓Hold_3, zaag, zaa8, ↓zaah, ↓ae_tmp, ↓ae_int, ↓zacy, ↓zaa1, ↓zacz, ↓zaa0, ↓zac0, zaaq, zaap, zaba, zach, zaed, zaat, zaec, zadx, zaar, zaak, zaa4, bb_ff, bb_ft, bb_tf, bb_tt, zaas, ↓zaa6, ↓zaa5, light, ↓zabb, ↓zaai, ↓zacv, ↓zacw, ↓zabp, ret1, Option.map_some, Option.bind_some, Option.map_none, Option.bind_none, ↓reduceIte, Nat.reduceEqDiff, reduceCtorEq, Bool.false_eq_true, Nat.reduceBEq, decide_true, decide_false, Bool.not_true, Bool.not_false, List.getElem?_toArray, List.getElem?_cons_zero, List.getElem?_cons_succ, Nat.zero_add, Nat.add_zero, Nat.reduceAdd, Nat.reduceMul, Nat.reduceSub, Nat.reduceLT, Nat.reduceLeDiff, and_true, true_and, and_self, List.map_cons, List.map_nil, List.all_cons, List.all_nil, zadh, zadr, zack, zacc, zadi, zadu, zabl, zabi, zad2, zadt, zacm, zace, zacn, zacf, zad1, zads, zad0, zadq, zacl, zacd, zadz, zadp, Bool.and_true, List.drop_zero, List.toList_toArray, List.size_toArray, List.length_cons, List.length_nil, zacg, zaa7, zab4, zaca, zab8, zab7, zab6, zab5, zab3, zacb, zab9, Int.cast_ofNat_Int, beq_self_eq_true, Int.reduceLT, Int.reduceLE, Int.reduceToNat, Int.toNat_natCast, Int.reduceBEq, Int.reduceBNe, Int.reduceSub, Int.reduceAdd, gt_iff_lt, ge_iff_le, Int.lt_irrefl, decide_true, decide_false, Bool.not_eq_true, beq_self_eq_true, bb_ff, bb_ft, bb_tf, bb_tt, bne_self_eq_false, zaab, zaan, zaad, zaaf, cellAt, cellsAt, zaay, acells, alenOf, Nat.le_refl, zabd, zabe, Tryd.results25, e0, e1, e7, ln9, ix9, hqi, h0, hc, w2, hbe, lit34, fk31, h1', hn1, hd, bne, hne]
      refine (zao5 hXs hb (by omega)).mono ?_
      rintro r H2 ⟨rfl, n2, g2⟩
      simp -dsimp only [↓WP_seq, ↓zabo, ↓zad7, ↓WP_ret, ↓zaeb, ↓zacu, ↓zad8, ↓zad9, ↓zaea, ↓DR_one, ↓DR_non, ↓DR_nil, ↓zad5, ↓zad6, ↓zad3, ↓zad4, ↓DF_nil, ↓Step_guard, ↓Step_move, ↓Step_assign, ↓Step_pick, ↓Step_build, ↓Step_load, ↓Step_nilCheck, ↓Step_binOp, ↓Step_unOp, ↓Step_makeFunc, ↓Step_slice, ↓Step_fieldAddr, ↓Step_field, ↓Step_indexAddr, ↓Step_index, ↓Step_extract, ↓Step_len, ↓Step_box, ↓Step_buildSlice, ↓Step_store, ↓Step_append, ↓Step_call, ↓zabh, ↓zaa2, ↓zaa3, ↓Hold_1, ↓Hold_2, ↓Hold_3, zaag, zaa8, ↓zaah, ↓ae_tmp, ↓ae_int, ↓zacy, ↓zaa1, ↓zacz, ↓zaa0, ↓zac0, zaaq, zaap, zaba, zach, zaed, zaat, zaec, zadx, zaar, zaak, zaa4, bb_ff, bb_ft, bb_tf, bb_tt, zaas, ↓zaa6, ↓zaa5, light, ↓zabb, ↓zaai, ↓zacv, ↓zacw, ↓zabp, ret1, Option.map_some, Option.bind_some, Option.map_none, Option.bind_none, ↓reduceIte, Nat.reduceEqDiff, reduceCtorEq, Bool.false_eq_true, Nat.reduceBEq, decide_true, decide_false, Bool.not_true, Bool.not_false, List.getElem?_toArray, List.getElem?_cons_zero, List.getElem?_cons_succ, Nat.zero_add, Nat.add_zero, Nat.reduceAdd, Nat.reduceMul, Nat.reduceSub, Nat.reduceLT, Nat.reduceLeDiff, and_true, true_and, and_self, List.map_cons, List.map_nil, List.all_cons, List.all_nil, zadh, zadr, zack, zacc, zadi, zadu, zabl, zabi, zad2, zadt, zacm, zace, zacn, zacf, zad1, zads, zad0, zadq, zacl, zacd, zadz, zadp, Bool.and_true, List.drop_zero, List.toList_toArray, List.size_toArray, List.length_cons, List.length_nil, zacg, zaa7, zab4, zaca, zab8, zab7, zab6, zab5, zab3, zacb, zab9, Int.cast_ofNat_Int, beq_self_eq_true, Int.reduceLT, Int.reduceLE, Int.reduceToNat, Int.toNat_natCast, Int.reduceBEq, Int.reduceBNe, Int.reduceSub, Int.reduceAdd, gt_iff_lt, ge_iff_le, Int.lt_irrefl, decide_true, decide_false, Bool.not_eq_true, beq_self_eq_true, bb_ff, bb_ft, bb_tf, bb_tt, bne_self_eq_false, Tryd.results25, e0, e1, e7, w2, hbe]
      refine ⟨?_, n2, g2⟩
      rw [← hF]
      simp only [quoV]
      rfl
   ·have hne : ((c.toNat : Int) == 34) = false := by rw [beq_eq_false_iff_ne]; exact fun h => hc4 ((u8_lit c).1 h)
    have hF' : quoF s (m + 1) q acc = quoF s m (q + 1) (acc ++ [c]) := by simp only [quoF, hc, hc4, if_false]
    rw [hF'] at hF
    simp -dsimp only [↓WP_seq, ↓zabo, ↓zad7, ↓WP_ret, ↓zaeb, ↓zacu, ↓zad8, ↓zad9, ↓zaea, ↓DR_one, ↓DR_non, ↓DR_nil, ↓zad5, ↓zad6, ↓zad3, ↓zad4, ↓DF_nil, ↓Step_guard, ↓Step_move, ↓Step_assign, ↓Step_pick, ↓Step_build, ↓Step_load, ↓Step_nilCheck, ↓Step_binOp, ↓Step_unOp, ↓Step_makeFunc, ↓Step_slice, ↓Step_fieldAddr, ↓Step_field, ↓Step_indexAddr, ↓Step_index, ↓Step_extract, ↓Step_len, ↓Step_box, ↓Step_buildSlice, ↓Step_store, ↓Step_append, ↓Step_call, ↓zabh, ↓zaa2, ↓zaa3, ↓Hold_1, ↓Hold_2, ↓Hold_3, zaag, zaa8, ↓zaah, ↓ae_tmp, ↓ae_int, ↓zacy, ↓zaa1, ↓zacz, ↓zaa0, ↓zac0, zaaq, zaap, zaba, zach, zaed, zaat, zaec, zadx, zaar, zaak, zaa4, bb_ff, bb_ft, bb_tf, bb_tt, zaas, ↓zaa6, ↓zaa5, light, ↓zabb, ↓zaai, ↓zacv, ↓zacw, ↓zabp, ret1, Option.map_some, Option.bind_some, Option.map_none, Option.bind_none, ↓reduceIte, Nat.reduceEqDiff, reduceCtorEq, Bool.false_eq_true, Nat.reduceBEq, decide_true, decide_false, Bool.not_true, Bool.not_false, List.getElem?_toArray, List.getElem?_cons_zero, List.getElem?_cons_succ, Nat.zero_add, Nat.add_zero, Nat.reduceAdd, Nat.reduceMul, Nat.reduceSub, Nat.reduceLT, Nat.reduceLeDiff, and_true, true_and, and_self, List.map_cons, List.map_nil, List.all_cons, List.all_nil, zadh, zadr, zack, zacc, zadi, zadu, zabl, zabi, zad2, zadt, zacm, zace, zacn, zacf, zad1, zads, zad0, zadq, zacl, zacd, zadz, zadp, Bool.and_true, List.drop_zero, List.toList_toArray, List.size_toArray, List.length_cons, List.length_nil, zacg, zaa7, zab4, zaca, zab8, zab7, zab6, zab5, zab3, zacb, zab9, Int.cast_ofNat_Int, beq_self_eq_true, Int.reduceLT, Int.reduceLE, Int.reduceToNat, Int.toNat_natCast, Int.reduceBEq, Int.reduceBNe, Int.reduceSub, Int.reduceAdd, gt_iff_lt, ge_iff_le, Int.lt_irrefl, decide_true, decide_false, Bool.not_eq_true, beq_self_eq_true, bb_ff, bb_ft, bb_tf, bb_tt, bne_self_eq_false, zaab, zaan, zaad, zaaf, cellAt, cellsAt, zaay, acells, alenOf, Nat.le_refl, zabd, zabe, Tryd.results25, e0, e1, e7, ln9, ix9, hqi, h0, hc, w2, bne, hne, fk30]
    refine (zayd (b := c) hXw hXc hb (by omega)).mono ?_
    rintro r H2 ⟨rfl, hb2⟩
    simp -dsimp only [↓WP_seq, ↓zabo, ↓zad7, ↓WP_ret, ↓zaeb, ↓zacu, ↓zad8, ↓zad9, ↓zaea, ↓DR_one, ↓DR_non, ↓DR_nil, ↓zad5, ↓zad6, ↓zad3, ↓zad4, ↓DF_nil, ↓Step_guard, ↓Step_move, ↓Step_assign, ↓Step_pick, ↓Step_build, ↓Step_load, ↓Step_nilCheck, ↓Step_binOp, ↓Step_unOp, ↓Step_makeFunc, ↓Step_slice, ↓Step_fieldAddr, ↓Step_field, ↓Step_indexAddr, ↓Step_index, ↓Step_extract, ↓Step_len, ↓Step_box, ↓Step_buildSlice, ↓Step_store, ↓Step_append, ↓Step_call, ↓zabh, ↓zaa2, ↓zaa3, ↓Hold_1, ↓Hold_2, ↓Hold_3, zaag, zaa8, ↓zaah, ↓ae_tmp, ↓ae_int, ↓zacy, ↓zaa1, ↓zacz, ↓zaa0, ↓zac0, zaaq, zaap, zaba, zach, zaed, zaat, zaec, zadx, zaar, zaak, zaa4, bb_ff, bb_ft, bb_tf, bb_tt, zaas, ↓zaa6, ↓zaa5, light, ↓zabb, ↓zaai, ↓zacv, ↓zacw, ↓zabp, ret1, Option.map_some, Option.bind_some, Option.map_none, Option.bind_none, ↓reduceIte, Nat.reduceEqDiff, reduceCtorEq, Bool.false_eq_true, Nat.reduceBEq, decide_true, decide_false, Bool.not_true, Bool.not_false, List.getElem?_toArray, List.getElem?_cons_zero, List.getElem?_cons_succ, Nat.zero_add, Nat.add_zero, Nat.reduceAdd, Nat.reduceMul, Nat.reduceSub, Nat.reduceLT, Nat.reduceLeDiff, and_true, true_and, and_self, List.map_cons, List.map_nil, List.all_cons, List.all_nil, zadh, zadr, zack, zacc, zadi, zadu, zabl, zabi, zad2, zadt, zacm, zace, zacn, zacf, zad1, zads, zad0, zadq, zacl, zacd, zadz, zadp, Bool.and_true, List.drop_zero, List.toList_toArray, List.size_toArray, List.length_cons, List.length_nil, zacg, zaa7, zab4, zaca, zab8, zab7, zab6, zab5, zab3, zacb, zab9, Int.cast_ofNat_Int, beq_self_eq_true, Int.reduceLT, Int.reduceLE, Int.reduceToNat, Int.toNat_natCast, Int.reduceBEq, Int.reduceBNe, Int.reduceSub, Int.reduceAdd, gt_iff_lt, ge_iff_le, Int.lt_irrefl, decide_true, decide_false, Bool.not_eq_true, beq_self_eq_true, bb_ff, bb_ft, bb_tf, bb_tt, bne_self_eq_false, Tryd.results25, e0, e1, e7, w2]
    refine ⟨m, by omega, q + 1, acc ++ [c], by omega, by omega, hF, by simp; omega, ?_⟩
    first | exact hb2 | exact ⟨by congr 1, hb2⟩
  ·have hqi : ¬ (q : Int) < (s.size : Int) := by omega
   rw [zao3 hge] at hF
   simp -dsimp only [↓WP_seq, ↓zabo, ↓zad7, ↓WP_ret, ↓zaeb, ↓zacu, ↓zad8, ↓zad9, ↓zaea, ↓DR_one, ↓DR_non, ↓DR_nil, ↓zad5, ↓zad6, ↓zad3, ↓zad4, ↓DF_nil, ↓Step_guard, ↓Step_move, ↓Step_assign, ↓Step_pick, ↓Step_build, ↓Step_load, ↓Step_nilCheck, ↓Step_binOp, ↓Step_unOp, ↓Step_makeFunc, ↓Step_slice, ↓Step_fieldAddr, ↓Step_field, ↓Step_indexAddr, ↓Step_index, ↓Step_extract, ↓Step_len, ↓Step_box, ↓Step_buildSlice, ↓Step_store, ↓Step_append, ↓Step_call, ↓zabh, ↓zaa2, ↓zaa3, ↓Hold_1, ↓Hold_2, ↓Hold_3, zaag, zaa8, ↓zaah, ↓ae_tmp, ↓ae_int, ↓zacy, ↓zaa1, ↓zacz, ↓zaa0, ↓zac0, zaaq, zaap, zaba, zach, zaed, zaat, zaec, zadx, zaar, zaak, zaa4, bb_ff, bb_ft, bb_tf, bb_tt, zaas, ↓zaa6, ↓zaa5, light, ↓zabb, ↓zaai, ↓zacv, ↓zacw, ↓zabp, ret1, Option.map_some, Option.bind_some, Option.map_none, Option.bind_none, ↓reduceIte, Nat.reduceEqDiff, reduceCtorEq, Bool.false_eq_true, Nat.reduceBEq, decide_true, decide_false, Bool.not_true, Bool.not_false, List.getElem?_toArray, List.getElem?_cons_zero, List.getElem?_cons_succ, Nat.zero_add, Nat.add_zero, Nat.reduceAdd, Nat.reduceMul, Nat.reduceSub, Nat.reduceLT, Nat.reduceLeDiff, and_true, true_and, and_self, List.map_cons, List.map_nil, List.all_cons, List.all_nil, zadh, zadr, zack, zacc, zadi, zadu, zabl, zabi, zad2, zadt, zacm, zace, zacn, zacf, zad1, zads, zad0, zadq, zacl, zacd, zadz, zadp, Bool.and_true, List.drop_zero, List.toList_toArray, List.size_toArray, List.length_cons, List.length_nil, zacg, zaa7, zab4, zaca, zab8, zab7, zab6, zab5, zab3, zacb, zab9, Int.cast_ofNat_Int, beq_self_eq_true, Int.reduceLT, Int.reduceLE, Int.reduceToNat, Int.toNat_natCast, Int.reduceBEq, Int.reduceBNe, Int.reduceSub, Int.reduceAdd, gt_iff_lt, ge_iff_le, Int.lt_irrefl, decide_true, decide_false, Bool.not_eq_true, beq_self_eq_true, bb_ff, bb_ft, bb_tf, bb_tt, bne_self_eq_false, zaab, zaan, zaad, zaaf, cellAt, cellsAt, zaay, acells, alenOf, Nat.le_refl, zabd, zabe, Tryd.results25, e0, e1, e7, ln9, hqi]
   rw [← hF]
   refine ⟨rfl, ?_, ?_⟩
   ·have := hb.1; have := hb.2.1; omega
   ·exact hb.2.2.1
end Go.Proofs.YtliemjbafgnnbaaDoor.Abs
