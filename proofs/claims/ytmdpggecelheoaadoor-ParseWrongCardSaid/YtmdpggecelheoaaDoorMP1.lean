/- strings.Builder over the plain heap: what is given of copyCheck, and the walks of WriteByte and String. -/
import Derived.Test.YtmdpggecelheoaaDoorPZSC
import Derived.Test.YtmdpggecelheoaaDoorPA20
import Derived.Test.YtmdpggecelheoaaDoorPA27
import Derived.Test.YtmdpggecelheoaaDoorPA14
import Derived.Laws.Strings
import Derived.Shelf.LaysM
import Derived.Shelf.Strconv.Itoa3
import Derived.Shelf.LaysC
import Derived.Shelf.Strconv.AtoiAll
import Derived.Shelf.Strconv.ErrVarAll
import Derived.Shelf.Strings.Search1
import Derived.Shelf.Strings.Search2
import Derived.Shelf.Strings.Search3
import Derived.Shelf.Strings.Cut
import Derived.Test.YtmdpggecelheoaaDoorProg
import Derived.KernelRfl
import Derived.Lib.Bytealg
import Derived.Lib.ItoaNum
import Derived.Lib.AtoiAll
import Derived.Lib.LaidTab
import Derived.Lib.AppendIntMem
import Derived.Lib.AtoiErrMem
import Derived.Test.YtmdpggecelheoaaDoorRows
import Derived.Stop.LaidErr
import Derived.Shelf.Vars
set_option linter.unusedVariables false
set_option linter.unusedSimpArgs false
set_option maxRecDepth 4000
namespace Go.Proofs.YtmdpggecelheoaaDoor.Abs
open Go Go.RowKit
theorem exact_cb : ∀ l : List UInt8, exactBytes (l.map cb) = some l
  | [] => rfl
  | b :: l => by
    have ih := exact_cb l
    show (if (b.toNat : Int) = ((UInt8.ofNat (b.toNat : Int).toNat).toNat : Int) then (exactBytes (l.map cb)).map (UInt8.ofNat (b.toNat : Int).toNat :: ·) else none) = some (b :: l)
    rw [Int.toNat_natCast, UInt8.ofNat_toNat, if_pos rfl, ih]
    rfl
theorem Step_ustr {X : Outer} {ops : Array Oper} {dd : Option Tmp} {ty : TypeId} {pos : String} {af : Array Edge} {e : Env} {H : Hp} {K : Value → Hp → Prop} (pt it : TypeId) (s x : Operand) :
    Step Tryd.prog X ops ⟨dd, .call ⟨.builtin .unsafeString, #[s, x], #[pt, it]⟩, ty, pos, af, none⟩ e H K = With (austr Tryd.prog pt (aeval e s) (aeval e x) H) (Hold fun r => K r.1 r.2) := by
  rw [Step_heavy _ rfl]
  simp only [hop, With_map]
  rfl
theorem lop_data {ρ : Operand → Value} {H : Hp} (x : Operand) (ts : Array TypeId) : lop Tryd.prog ρ H (.call ⟨.builtin .unsafeSliceData, #[x], ts⟩) = adata (ρ x) := by
  simp only [lop]
theorem Step_data {X : Outer} {ops : Array Oper} {dd : Option Tmp} {ty : TypeId} {pos : String} {af : Array Edge} {e : Env} {H : Hp} {K : Value → Hp → Prop} (x : Operand) (ts : Array TypeId) :
    Step Tryd.prog X ops ⟨dd, .call ⟨.builtin .unsafeSliceData, #[x], ts⟩, ty, pos, af, none⟩ e H K = With (adata (aeval e x)) (Hold fun v => K v H) := by
  rw [← lop_data (H := H) x ts]; exact Step_light _ rfl
attribute [local irreducible] Hold DR DF Df Dc WP With
/-- A builder's first use writes its own address down. -/
def cpG : List Value → Hp → Option (Value × Hp) := fun args H => match args with
  | [.pointer (some ⟨i, 0, none⟩)] => (match H.get i with
    | .cells true e [.pointer none, s] => if e = bxT 145 then some (.tuple #[], H.put i (.cells true e [.pointer (some ⟨i, 0, none⟩), s])) else none
    | .cells true e [.pointer (some c), s] => if e = bxT 145 ∧ c = ⟨i, 0, none⟩ then some (.tuple #[], H) else none
    | _ => none)
  | _ => none
theorem one_arg {φ : Plan} {v : Value} {args' : List Value} (h : VRs φ [v] args') : ∃ v', args' = [v'] ∧ VR φ v v' := by
  match args', h.1 with
  | [v'], _ => exact ⟨v', rfl, h.head⟩
theorem cp_sound {B : Nat} {w0 : World} : KSound Tryd.prog B w0 fun f' args H => if f' = 172 then cpG args H else none := by
  intro b hb f' args H v H' hr φ w args' hR ha
  simp only at hr
  split at hr
  · rename_i hff
    subst hff
    unfold cpG at hr
    split at hr
    · rename_i i
      obtain ⟨v', rfl, hv⟩ := one_arg ha
      cases hv with
      | ptr _ _ m hm =>
        split at hr
        · rename_i e s hg
          split at hr
          · rename_i he
            subst he
            cases hr
            obtain ⟨c1, h1, h2, h3⟩ := cell_at hR (a := ⟨i, 0, none⟩) (v := Value.pointer none) (by simp [cellAt, hg]) hm
            cases h2
            obtain ⟨cur, e', fr, hh, hbx, hsz, hvr, hone, hown⟩ := cells_blk hR hg hm
            obtain ⟨b1, b2, b3⟩ := (hbx rfl).1 (bxT_1 _)
            rw [elT_bx] at b1
            subst b1
            simp only [b2, Nat.zero_add] at h1 ⊢
            obtain ⟨k1, k2, k3, k4⟩ := hown rfl
            have b3' : cur.size = 2 := b3
            have hfz : w.frozen? ⟨m.blk, 0, none⟩ = false := by
              simp only [World.frozen?, hh]
              refine k4 0 ?_
              simp only [List.length_cons, List.length_nil] at k3
              omega
            refine (check_fresh m.blk w h1 (by simp [World.shape?, hh, b3']) hfz).mono ?_
            rintro e w' ⟨rfl, rfl⟩
            have hself : VRs φ [Value.pointer (some ⟨i, 0, none⟩)] [Value.pointer (some ⟨m.blk, 0, none⟩)] := .cons (by have := VR.ptr (φ := φ) i 0 m hm; rwa [b2] at this) (.nil φ)
            obtain ⟨cur2, e2, fr2, g1, _, g3⟩ := hR.store (P := Tryd.prog) hg hm (off := 0) (vs := [Value.pointer (some ⟨i, 0, none⟩)]) (vs' := [Value.pointer (some ⟨m.blk, 0, none⟩)]) (by simp) hself (by intro v hv; simp at hv; subst hv; rfl)
            rw [hh] at g1
            cases g1
            rw [setCell_eq_setRow w m.blk 0 cur _ fr _ hh]
            refine ⟨φ, _, Plan.le_refl φ, rfl, .junk _, ?_⟩
            have ec : (cur.setIfInBounds 0 (Value.pointer (some ⟨m.blk, 0, none⟩))) = (cur.toList.take (m.base + 0) ++ [Value.pointer (some ⟨m.blk, 0, none⟩)] ++ cur.toList.drop (m.base + 0 + [Value.pointer (some ⟨m.blk, 0, none⟩)].length)).toArray := by
              rw [b2]
              obtain ⟨l⟩ := cur
              match l, b3' with
              | [x, y], _ => rfl
            rw [ec]
            exact g3
          · cases hr
        · rename_i e c s hg
          split at hr
          · rename_i hc
            obtain ⟨he, rfl⟩ := hc
            subst he
            cases hr
            obtain ⟨c1, h1, h2, h3⟩ := cell_at hR (a := ⟨i, 0, none⟩) (v := Value.pointer (some ⟨i, 0, none⟩)) (by simp [cellAt, hg]) hm
            obtain ⟨cur, e', fr, hh, hbx, _⟩ := cells_blk hR hg hm
            obtain ⟨b1, b2, b3⟩ := (hbx rfl).1 (bxT_1 _)
            cases h2 with
            | ptr _ _ m2 hm2 =>
              rw [hm] at hm2
              cases hm2
              simp only [b2, Nat.zero_add] at h1 ⊢
              refine (check_used m.blk w h1).mono ?_
              rintro e w' ⟨rfl, rfl⟩
              exact ⟨φ, _, Plan.le_refl φ, rfl, .junk _, hR⟩
          · cases hr
        · cases hr
    · cases hr
  · cases hr
/-! ### A builder's bytes -/
/-- A row of bytes of one's own, or the nil slice. -/
def Row (n0 i : Nat) (H : Hp) (s : Value) (l : List UInt8) : Prop :=
  (l = [] ∧ s = .slice none 0 0) ∨ ∃ j, s = .slice (some ⟨j, 0, none⟩) l.length 1 ∧ n0 ≤ j ∧ j < H.next ∧ j ≠ i ∧ l ≠ [] ∧ H.get j = .cells true (slT 5) (l.map cb)
/-- A builder in block i that holds these bytes; what was there at H0 stands. -/
def Bld (H0 H : Hp) (i : Nat) (l : List UInt8) : Prop := H0.next ≤ i ∧ i < H.next ∧ (∀ b, b < H0.next → H.get b = H0.get b) ∧
  ∃ a s, H.get i = .cells true (bxT 145) [.pointer a, s] ∧ (a = none ∨ a = some ⟨i, 0, none⟩) ∧ Row H0.next i H s l
theorem Row.frame {n0 i : Nat} {H H' : Hp} {s : Value} {l : List UInt8} (h : Row n0 i H s l) (hn : H.next ≤ H'.next) (hg : ∀ j, n0 ≤ j → j < H.next → j ≠ i → H'.get j = H.get j) : Row n0 i H' s l := by
  rcases h with h | ⟨j, h1, h2, h3, h4, h5, h6⟩
  · exact .inl h
  · exact .inr ⟨j, h1, h2, by omega, h4, h5, by rw [hg j h2 h3 h4, h6]⟩
theorem Row.len {n0 i : Nat} {H : Hp} {s : Value} {l : List UInt8} (h : Row n0 i H s l) : isTup s = false ∧ s.cells = #[s] := by
  rcases h with ⟨_, rfl⟩ | ⟨j, rfl, _⟩ <;> exact ⟨rfl, rfl⟩
theorem Row.grow {n0 i : Nat} {H : Hp} {s : Value} {l new : List UInt8} (h : Row n0 i H s l) (h0 : new ≠ []) (hl : l.length + new.length ≤ 140737488355328) :
    ∃ Hb, agrow2 5 1 1 s new.length (new.map cb) H = some (.slice (some ⟨H.next, 0, none⟩) (l ++ new).length 1, Hb) ∧ Hb.next = H.next + 1 ∧ Hb.get H.next = .cells true (slT 5) ((l ++ new).map cb) ∧ ∀ b, b < H.next → (b < n0 ∨ b = i) → Hb.get b = H.get b := by
  have hk : new.length ≠ 0 := by simpa using h0
  rcases h with ⟨rfl, rfl⟩ | ⟨j, rfl, h2, h3, h4, h5, h6⟩
  · refine ⟨H.push (.cells true (slT 5) (new.map cb)), ?_, next_push _ _, by rw [get_push, if_pos rfl]; simp, fun b hb _ => by rw [get_push, if_neg (by omega)]⟩
    simp only [agrow2, hk, if_false]
    rw [if_pos ⟨by simp at hl ⊢; omega, by simp at hl; omega⟩]
    simp
  · refine ⟨(H.put j .dead).push (.cells true (slT 5) ((l ++ new).map cb)), ?_, by rw [next_push, next_put], by rw [get_push, next_put, if_pos rfl], fun b hb hor => by rw [get_push, next_put, if_neg (by omega), get_put, if_neg (by omega)]⟩
    simp only [agrow2, hk, if_false, h6]
    rw [if_pos ⟨trivial, trivial, by simp, by omega, by omega⟩]
    have : agT (slT 5) 5 0 = slT 5 := by simp [agT]
    simp only [this]
    have e1 : List.take (l.length * 1) (List.drop 0 (l.map cb)) ++ new.map cb = (l ++ new).map cb := by
      rw [List.drop_zero, List.take_of_length_le (by simp), List.map_append]
    rw [e1, List.length_append]
theorem cp_spec {X : Outer} (hX : X 172 = some cpG) {H0 H : Hp} {i : Nat} {l : List UInt8} (h : Bld H0 H i l) :
    Df Tryd.prog X 172 [.pointer (some ⟨i, 0, none⟩)] H fun _ H' => Bld H0 H' i l ∧ H'.next = H.next := by
  obtain ⟨h1, h2, h3, a, s, h4, h5, h6⟩ := h
  rcases h5 with rfl | rfl
  · refine Df_ext (r := (.tuple #[], H.put i (.cells true (bxT 145) [.pointer (some ⟨i, 0, none⟩), s]))) hX (by simp [cpG, h4]) ⟨⟨h1, by rw [next_put]; exact h2, fun b hb => by rw [get_put, if_neg (by omega)]; exact h3 b hb, some ⟨i, 0, none⟩, s, by rw [get_put, if_pos rfl], .inr rfl, ?_⟩, next_put _ _ _⟩
    exact h6.frame (by rw [next_put]; exact Nat.le_refl _) fun j _ _ hj => by rw [get_put, if_neg hj]
  · exact Df_ext (r := (.tuple #[], H)) hX (by simp [cpG, h4]) ⟨⟨h1, h2, h3, _, s, h4, .inr rfl, h6⟩, rfl⟩
theorem ae_nili (e : Env) : aeval e (.const .nilIface) = .nilIface := _root_.id rfl
theorem cb_as (b : UInt8) : Value.int .u8 (b.toNat : Int) = cb b := rfl
theorem wb_spec {X : Outer} (hX : X 156 = none) (hXc : X 172 = some cpG) {H0 H : Hp} {i : Nat} {l : List UInt8} {b : UInt8} (h : Bld H0 H i l) (hl : l.length + 1 ≤ 140737488355328) :
    Df Tryd.prog X 156 [.pointer (some ⟨i, 0, none⟩), cb b] H fun r H' => r = .nilIface ∧ Bld H0 H' i (l ++ [b]) := by
  refine Df_text hX Tryd.func156 rfl (by kernel_rfl) (by show 2 ≤ _; decide) ?_
  simp -dsimp only [↓WP_seq, ↓WP_region, ↓WP_ret, ↓DR_one, ↓DR_nil, ↓Step_move, ↓Step_assign, ↓Step_nilCheck, ↓Step_call, ↓Hold_1, With_some, ↓eget_eset, ↓ae_tmp, eget_zero, lop_nil, ↓finish_ret, ↓ares_nil, ↓ares_tmp, ret1, Option.map_some, ↓reduceIte, reduceCtorEq, List.map_cons, List.map_nil, List.toList_toArray, Tryd.results156, fk172]
  refine (cp_spec hXc h).mono ?_
  rintro r H1 ⟨⟨h1, h2, h3, a, s, h4, h5, h6⟩, _⟩
  generalize hHa : H1.push (.cells true (slT 5) [cb b]) = Ha
  have na : Ha.next = H1.next + 1 := by rw [← hHa, next_push]
  have ga : ∀ j, j < H1.next → Ha.get j = H1.get j := fun j hj => by rw [← hHa, get_push, if_neg (by omega)]
  have h6a : Row H0.next i Ha s l := h6.frame (by omega) fun j _ hj _ => ga j hj
  obtain ⟨Hb, b1, b2, b3, b4⟩ := h6a.grow (new := [b]) (by simp) (by simpa using hl)
  have hbi : Hb.get i = .cells true (bxT 145) [.pointer a, s] := by rw [b4 i (by omega) (.inr rfl), ga i h2, h4]
  have hne : i ≠ H1.next := by omega
  have htk : [cb b].take 1 = [cb b] := rfl
  have ltup : isTup s = false := h6.len.1
  simp only [List.length_singleton, List.map_cons, List.map_nil] at b1
  have gx : Ha.get H1.next = .cells true (slT 5) [cb b] := by rw [← hHa, get_push, if_pos rfl]
  simp -dsimp only [↓DR_one, ↓DR_non, ↓DR_nil, ↓Step_move, ↓Step_load, ↓Step_nilCheck, ↓Step_fieldAddr, ↓Step_buildSlice, ↓Step_store, ↓Step_append, ↓Hold_1, ↓Hold_2, With_some, ↓eget_eset, ↓ae_tmp, eget_zero, eget_succ, lop_nil, Option.map_some, Option.bind_some, ↓reduceIte, Nat.reduceEqDiff, reduceCtorEq, Bool.not_false, List.getElem?_cons_zero, List.getElem?_cons_succ, Nat.zero_add, Nat.reduceAdd, Nat.reduceMul, Nat.reduceLeDiff, true_and, and_self, List.map_cons, List.map_nil, List.all_cons, List.all_nil, cel_int, tup_slice, cel_slice, Bool.and_true, List.drop_zero, List.toList_toArray, List.size_toArray, List.length_cons, List.length_nil, fill_one, cellAt, cellsAt, acells, alenOf, Nat.le_refl, fa145_1, ld129, bs129, gr129, h4, ↓cb_cells, ↓cb_tup, htk, hHa, gx, b1, so129, hbi, ↓ae_nili]
  refine ⟨h1, by rw [next_put]; omega, fun k hk => by rw [get_put, if_neg (by omega), b4 k (by omega) (.inl hk), ga k (by omega), h3 k hk], a, _, by rw [get_put, if_pos rfl]; rfl, h5, ?_⟩
  exact .inr ⟨Ha.next, rfl, by omega, by rw [next_put]; omega, by omega, by simp, by rw [get_put, if_neg (by omega), b3]⟩
theorem bytes_of (h : Tryd.prog.cellsOf 5 = 1) {H : Hp} {j : Nat} {l : List UInt8} (h0 : l ≠ []) (hl : l.length ≤ 140737488355328) (hg : H.get j = .cells true (slT 5) (l.map cb)) :
    austr Tryd.prog 170 (.pointer (some ⟨j, 0, none⟩)) (.int .i64 l.length) H = some (.string ⟨l.toArray⟩, H.put j .dead) := by
  have hn : l.length ≠ 0 := by simpa using h0
  unfold austr
  split
  · rename_i h1 h2; cases h1
  · rename_i a n h1 h2
    cases h1
    cases h2
    simp only [Tryd.underlying170, hg, h]
    rw [if_pos ⟨trivial, trivial, trivial, trivial, by omega, by simp, by omega⟩]
    rw [Int.toNat_natCast, List.take_of_length_le (by simp), exact_cb]
    rfl
  · rename_i h1 h2
    exact absurd rfl (h2 _ _ rfl)
theorem u8_cells : Tryd.prog.cellsOf 5 = 1 := by kernel_rfl
theorem strg_spec {X : Outer} (hX : X 150 = none) {H0 H : Hp} {i : Nat} {l : List UInt8} (h : Bld H0 H i l) (hl : l.length ≤ 140737488355328) :
    Df Tryd.prog X 150 [.pointer (some ⟨i, 0, none⟩)] H fun r H' => r = .string ⟨l.toArray⟩ ∧ H0.next ≤ H'.next ∧ ∀ b, b < H0.next → H'.get b = H0.get b := by
  obtain ⟨h1, h2, h3, a, s, h4, h5, h6⟩ := h
  refine Df_text hX Tryd.func150 rfl (by kernel_rfl) (by show 1 ≤ _; decide) ?_
  rcases h6 with ⟨rfl, rfl⟩ | ⟨j, rfl, g2, g3, g4, g5, g6⟩
  · have hu : austr Tryd.prog 170 (.pointer none) (.int .i64 0) H = some (.string .empty, H) := by simp [austr]
    have hn : alen Tryd.prog 129 (.slice none 0 0) H = some (.int .i64 0) := ln129 H none 0 0
    simp -dsimp only [↓WP_seq, ↓WP_region, ↓WP_open, ↓DR_one, ↓DR_nil, ↓Step_assign, ↓Hold_1, With_some, ↓ae_string]
    refine Dc_any [[], [], [], [], [], [], [], [], [], [], [], []] (by kernel_rfl) (by kernel_rfl) ?_
    simp -dsimp only [↓WP_ret, ↓DF_one0, ↓DF_nil, ↓Step_move, ↓Step_assign, ↓Step_load, ↓Step_nilCheck, ↓Step_fieldAddr, ↓Step_len, ↓Hold_1, ↓Hold_3, With_some, ↓eget_eset, ↓ae_tmp, eget_zero, lop_nil, lop_len, light, ↓finish_ret, ↓ares_nil, ↓ares_tmp, ret1, Option.map_some, ↓reduceIte, Nat.reduceEqDiff, reduceCtorEq, Bool.false_eq_true, List.getElem?_cons_zero, List.getElem?_cons_succ, Nat.zero_add, true_and, List.toList_toArray, met_nil, List.reverse_cons, List.reverse_nil, List.nil_append, List.cons_append, cellAt, Tryd.results150, h4, fa145_1, ld129, Step_ustr, Step_data, adata, hu, hn]
    exact ⟨rfl, by omega, h3⟩
  · have hu := bytes_of u8_cells g5 hl g6
    have hj : j < H.next := g3
    have hl0 : l.length ≠ 0 := by simpa using g5
    obtain ⟨k, hk⟩ : ∃ k, l.length = k + 1 := ⟨l.length - 1, by omega⟩
    have hd : adata (.slice (some ⟨j, 0, none⟩) l.length 1) = some (.pointer (some ⟨j, 0, none⟩)) := by rw [hk]; rfl
    have hn : alen Tryd.prog 129 (.slice (some ⟨j, 0, none⟩) l.length 1) H = some (.int .i64 l.length) := ln129 H _ _ _
    simp -dsimp only [↓WP_seq, ↓WP_region, ↓WP_open, ↓DR_one, ↓DR_nil, ↓Step_assign, ↓Hold_1, With_some, ↓ae_string]
    refine Dc_any [[], [], [], [], [], [], [], [], [], [], [], []] (by kernel_rfl) (by kernel_rfl) ?_
    simp -dsimp only [↓WP_ret, ↓DF_one0, ↓DF_nil, ↓Step_move, ↓Step_assign, ↓Step_load, ↓Step_nilCheck, ↓Step_fieldAddr, ↓Step_len, ↓Hold_1, ↓Hold_3, With_some, ↓eget_eset, ↓ae_tmp, eget_zero, lop_nil, lop_len, light, ↓finish_ret, ↓ares_nil, ↓ares_tmp, ret1, Option.map_some, ↓reduceIte, Nat.reduceEqDiff, reduceCtorEq, Bool.false_eq_true, List.getElem?_cons_zero, List.getElem?_cons_succ, Nat.zero_add, true_and, List.toList_toArray, met_nil, List.reverse_cons, List.reverse_nil, List.nil_append, List.cons_append, get_put, next_put, cellAt, Tryd.results150, h4, fa145_1, ld129, Step_ustr, Step_data, hd, hu, hn]
    exact ⟨by omega, fun b hb => by rw [if_neg (by omega), h3 b hb]⟩
end Go.Proofs.YtmdpggecelheoaaDoor.Abs
/- The plain evaluator with environments as logs: quicker for the kernel, and what it tells the plain one tells. -/
set_option linter.unusedVariables false
set_option linter.unusedSimpArgs false
namespace Go.Proofs.YtmdpggecelheoaaDoor.Abs
open Go
abbrev QEnv := List (Nat × Value)
def qget (i : Nat) : QEnv → Value
  | [] => undef
  | (j, v) :: r => match Nat.beq i j with
    | true => v
    | false => qget i r
def qput (E : QEnv) (d : Option Tmp) (v : Value) : QEnv := match d with
  | some d => (d, v) :: E
  | none => E
def qeval (E : QEnv) : Operand → Value
  | .tmp t => qget t E
  | .const v => aconst v
  | .global _ => undef
  | .func f => .func (.func f) #[] #[]
def qenv : Nat → List Value → QEnv
  | _, [] => []
  | i, v :: vs => (i, v) :: qenv (i + 1) vs
def QSim (E : QEnv) (e : Env) : Prop := ∀ i, qget i E = eget e i
theorem qget_cons (i j : Nat) (v : Value) (r : QEnv) : qget i ((j, v) :: r) = if i = j then v else qget i r := by
  show (match Nat.beq i j with | true => v | false => qget i r) = _
  by_cases h : i = j
  · subst h
    rw [Nat.beq_refl, if_pos rfl]
  · have : Nat.beq i j = false := by
      cases hb : Nat.beq i j
      · rfl
      · exact absurd (Nat.eq_of_beq_eq_true hb) h
    rw [this, if_neg h]
theorem QSim.qeval {E : QEnv} {e : Env} (h : QSim E e) : qeval E = aeval e := by
  funext x
  cases x with
  | tmp t => exact h t
  | _ => rfl
theorem QSim.put {E : QEnv} {e : Env} (h : QSim E e) (d : Option Tmp) (v : Value) : QSim (qput E d v) (eput e d v) := by
  cases d with
  | none => exact h
  | some d =>
    intro i
    show qget i ((d, v) :: E) = eget (eset e d v) i
    rw [qget_cons, eget_eset, h i]
theorem sim_env : ∀ (vs : List Value) (k i : Nat), qget i (qenv k vs) = if k ≤ i then eget vs (i - k) else undef
  | [], k, i => by
    rw [eget_nil]
    split <;> rfl
  | v :: vs, k, i => by
    show qget i ((k, v) :: qenv (k + 1) vs) = _
    rw [qget_cons, sim_env vs]
    by_cases h : i = k
    · subst h
      rw [if_pos rfl, if_pos (Nat.le_refl _), Nat.sub_self]
      rfl
    · rw [if_neg h]
      by_cases h2 : k ≤ i
      · rw [if_pos h2, if_pos (by omega)]
        obtain ⟨d, hd⟩ : ∃ d, i - k = d + 1 := ⟨i - k - 1, by omega⟩
        rw [hd, eget_succ]
        congr 1
        omega
      · rw [if_neg h2, if_neg (by omega)]
theorem QSim.env (vs : List Value) : QSim (qenv 0 vs) vs := fun i => by
  rw [sim_env vs 0 i, if_pos (Nat.zero_le _), Nat.sub_zero]
def wrap64 (n : Int) : Int :=
  let m := n % 18446744073709551616
  if 9223372036854775808 ≤ m then m - 18446744073709551616 else m
theorem wrap64_eq (n : Int) : wrap64 n = IntKind.i64.wrap n := by
  unfold wrap64 IntKind.wrap
  show (if 9223372036854775808 ≤ n % 18446744073709551616 then n % 18446744073709551616 - 18446744073709551616 else n % 18446744073709551616) = if (true && decide (n % (2 ^ 64 : Int) ≥ (2 ^ 63 : Int))) = true then n % (2 ^ 64 : Int) - (2 ^ 64 : Int) else n % (2 ^ 64 : Int)
  simp
def qbeqL : List UInt8 → List UInt8 → Bool
  | [], [] => true
  | a :: x, b :: y => match Nat.beq a.toNat b.toNat with
    | true => qbeqL x y
    | false => false
  | _, _ => false
theorem qbeqL_eq : ∀ x y, qbeqL x y = (x == y)
  | [], [] => rfl
  | [], _ :: _ => rfl
  | _ :: _, [] => rfl
  | a :: x, b :: y => by
    show (match Nat.beq a.toNat b.toNat with | true => qbeqL x y | false => false) = _
    rw [qbeqL_eq x y, List.cons_beq_cons]
    cases h : Nat.beq a.toNat b.toNat with
    | true =>
      have : a = b := UInt8.toNat_inj.1 (Nat.eq_of_beq_eq_true h)
      subst this
      simp
    | false =>
      have : a ≠ b := fun e => by rw [e, Nat.beq_refl] at h; cases h
      have h2 : (a == b) = false := by simp [this]
      rw [h2]; rfl
section
variable (P : Program)
/-- What joins two numbers or two texts, by itself. -/
def qbin (op : BinOp) (t : TypeId) (x y : Operand) (a b : Value) : Option Value := match a, b with
  | .int .i64 m, .int .i64 n => (match op with
    | .add => some (.int .i64 (wrap64 (m + n)))
    | .sub => some (.int .i64 (wrap64 (m - n)))
    | .eql => some (.bool (m == n))
    | .neq => some (.bool (m != n))
    | .lss => some (.bool (decide (m < n)))
    | .leq => some (.bool (decide (m ≤ n)))
    | .gtr => some (.bool (decide (m > n)))
    | .geq => some (.bool (decide (m ≥ n)))
    | op => abin P op t x y (.int .i64 m) (.int .i64 n))
  | .int .u8 m, .int .u8 n => (match op with
    | .eql => some (.bool (m == n))
    | .neq => some (.bool (m != n))
    | .lss => some (.bool (decide (m < n)))
    | .leq => some (.bool (decide (m ≤ n)))
    | .gtr => some (.bool (decide (m > n)))
    | .geq => some (.bool (decide (m ≥ n)))
    | op => abin P op t x y (.int .u8 m) (.int .u8 n))
  | .string s, .string r => (match op with
    | .eql => some (.bool (qbeqL s.data.toList r.data.toList))
    | .neq => some (.bool (!qbeqL s.data.toList r.data.toList))
    | op => abin P op t x y (.string s) (.string r))
  | a, b => abin P op t x y a b
theorem qbin_eq (op : BinOp) (t : TypeId) (x y : Operand) (a b : Value) : qbin P op t x y a b = abin P op t x y a b := by
  unfold qbin
  split
  · split
    · rw [abin_add, wrap64_eq]
    · rw [abin_sub, wrap64_eq]
    · rw [abin_eql]
    · rw [abin_neq]
    · rw [abin_lss]
    · rw [abin_leq]
    · rw [abin_gtr]
    · rw [abin_geq]
    · rfl
  · split
    · rw [abin_eql]
    · rw [abin_neq]
    · rw [abin_lss]
    · rw [abin_leq]
    · rw [abin_gtr]
    · rw [abin_geq]
    · rfl
  · split
    · rw [abin_seql, qbeqL_eq, ByteArray.toList_eq, ByteArray.toList_eq]
    · rw [abin_sneq, qbeqL_eq, ByteArray.toList_eq, ByteArray.toList_eq]
    · rfl
  · rfl
def qlop (E : QEnv) (H : Hp) (op : Op) : Option Value := match op with
  | .move x => some (qeval E x)
  | .assign x => some (qeval E x)
  | .load t a => aload P t (qeval E a) H
  | .binOp op t x y _ => qbin P op t x y (qeval E x) (qeval E y)
  | op => lop P (qeval E) H op
theorem qlop_eq (E : QEnv) (H : Hp) (op : Op) : qlop P E H op = lop P (qeval E) H op := by
  unfold qlop
  split
  · rfl
  · rfl
  · rfl
  · rw [qbin_eq]; rfl
  · rfl
variable (K : CallFn)
def qwanted (ops : Array Oper) (o : Oper) (E : QEnv) : Option Bool := match o.guard with
  | none => some true
  | some (j, want) => match (ops[j]?).bind (·.dst) with
    | some d => asGuard (qget d E) want
    | none => none
def qstep (o : Oper) (E : QEnv) (H : Hp) : Option (Value × Hp) := match light P o.op with
  | true => (match qlop P E H o.op with
    | some v => some (v, H)
    | none => none)
  | false => (match hop P (qeval E) H o.op with
    | some (.val v H') => some (v, H')
    | some (.enter f args) => K f args H
    | none => none)
def qrunL (ops : Array Oper) : List Oper → QEnv → Hp → Option (QEnv × Hp)
  | [], E, H => some (E, H)
  | o :: rest, E, H => match qwanted ops o E with
    | some true => (match qstep P K o E H with
      | some (v, H') => qrunL ops rest (qput E o.dst v) H'
      | none => none)
    | some false => qrunL ops rest (qput E o.dst NR) H
    | none => none
structure QRec where
  i : Nat
  o : Oper
  e : QEnv
  v : Value
def qlval (ops : Array Oper) (o : Oper) (E : QEnv) (H : Hp) : Option Value := match qwanted ops o E with
  | some true => qlop P E H o.op
  | some false => some NR
  | none => none
def qrunD (ops : Array Oper) : List Oper → Nat → QEnv → Hp → List Hp → List QRec → Option (QEnv × List Hp × List QRec)
  | [], _, E, H, Hs, rs => some (E, H :: Hs, rs)
  | o :: rest, i, E, H, Hs, rs => match light P o.op with
    | true => (match qlval P ops o E H with
      | some v => (match readsMem o.op with
        | true => qrunD ops rest (i + 1) (qput E o.dst v) H Hs (⟨i, o, E, v⟩ :: rs)
        | false => qrunD ops rest (i + 1) (qput E o.dst v) H Hs rs)
      | none => none)
    | false => (match qwanted ops o E with
      | some true => (match qstep P K o E H with
        | some (v, H') => qrunD ops rest (i + 1) (qput E o.dst v) H' (H :: Hs) rs
        | none => none)
      | some false => qrunD ops rest (i + 1) (qput E o.dst NR) H (H :: Hs) rs
      | none => none)
def qrecOk (ops : Array Oper) (al : Nat → Nat → Bool) (Hs : List Hp) (r : QRec) : Bool :=
  (List.range Hs.length).all fun k => !al k r.i || (match Hs[k]? with
    | some H => match qlval P ops r.o r.e H with | some v => vbeq v r.v | none => false
    | none => false)
def qrecsOk (ops : Array Oper) (al : Nat → Nat → Bool) (Hs : List Hp) (rs : List QRec) : Bool := match Hs with
  | [_] => true
  | _ => rs.all (qrecOk P ops al Hs)
def qrunRegion (ops : Array Oper) (draw : Bool) (E : QEnv) (H : Hp) : Option (QEnv × Hp) := match draw with
  | true => (match drawOk P ops with
    | true => (match qrunD P K ops ops.toList 0 E H [] [] with
      | some (E', H' :: Hs, rs) => (match qrecsOk P ops (allowed P ops) (H' :: Hs).reverse rs with
        | true => some (E', H')
        | false => none)
      | _ => none)
    | false => (match drawOk2 P ops with
      | true => (match qrunD P K ops ops.toList 0 E H [] [] with
        | some (E', H' :: Hs, rs) => (match nextsOk (H' :: Hs).reverse && qrecsOk P ops (allowed2 P ops) (H' :: Hs).reverse rs with
          | true => some (E', H')
          | false => none)
        | _ => none)
      | false => none))
  | false => qrunL P K ops ops.toList E H
def qiter (g : QEnv → Hp → Option (Ex × QEnv × Hp)) : Nat → QEnv → Hp → Option (Ex × QEnv × Hp)
  | 0, _, _ => none
  | n + 1, E, H => match g E H with
    | some (.normal, E', H') => qiter g n E' H'
    | r => r
def qrunC (n : Nat) : Code → QEnv → Hp → Option (Ex × QEnv × Hp)
  | .skip, E, H => some (.normal, E, H)
  | .region _ ops draw, E, H => match qrunRegion P K ops draw E H with
    | some (E', H') => some (.normal, E', H')
    | none => none
  | .seq a b, E, H => match qrunC n a E H with
    | some (.normal, E', H') => qrunC n b E' H'
    | r => r
  | .cond c a b, E, H => match qeval E c with
    | .bool true => qrunC n a E H
    | .bool false => qrunC n b E H
    | _ => none
  | .block id c, E, H => match qrunC n c E H with
    | some (.exit j, E', H') => (match Nat.beq j id with
      | true => some (.normal, E', H')
      | false => some (.exit j, E', H'))
    | r => r
  | .loop c, E, H => qiter (qrunC n c) n E H
  | .exit id, E, H => some (.exit id, E, H)
  | .ret, E, H => some (.ret, E, H)
  | _, _, _ => none
def qresult (E : QEnv) (H : Hp) : ResultVar → Option Value
  | .tmp t => some (qget t E)
  | .cell a t => aload P t (qget a E) H
def qresults (E : QEnv) (H : Hp) : List ResultVar → Option (List Value)
  | [] => some []
  | r :: rs => match qresult P E H r with
    | some v => (match qresults E H rs with
      | some vs => some (v :: vs)
      | none => none)
    | none => none
def qrun (X : Outer) : Nat → CallFn
  | 0, _, _, _ => none
  | n + 1, f, args, H => match X f with
    | some g => g args H
    | none => match P.funcs[f]? with
      | none => none
      | some fn => match fn.body with
        | none => none
        | some c => match dstOk fn.ntmps c && Nat.ble args.length fn.ntmps with
          | true => (match qrunC P (qrun X n) n c (qenv 0 args) H with
            | some (.exit _, _, _) => none
            | some (_, E, H') => (match qresults P E H' fn.results.toList with
              | some vs => some (ret1 vs, H')
              | none => none)
            | none => none)
          | false => none
end
section
variable {P : Program} {K K' : CallFn} {ops : Array Oper} {E : QEnv} {e : Env}
theorem qwanted_eq (h : QSim E e) (o : Oper) : qwanted ops o E = awanted ops o e := by
  unfold qwanted awanted ayielded
  cases o.guard with
  | none => rfl
  | some p =>
    obtain ⟨j, want⟩ := p
    dsimp only
    cases (ops[j]?).bind (·.dst) with
    | none => rfl
    | some d =>
      show asGuard (qget d E) want = asGuard (eget e d) want
      rw [h d]
theorem qlval_eq (h : QSim E e) (o : Oper) (H : Hp) : qlval P ops o E H = lval P ops o e H := by
  unfold qlval lval
  rw [qwanted_eq h, qlop_eq, h.qeval]
  cases awanted ops o e with
  | none => rfl
  | some t => cases t <;> rfl
theorem qstep_of (hK : ∀ f args H r, K' f args H = some r → K f args H = some r) (h : QSim E e) {o : Oper} {H : Hp} {r : Value × Hp} (hr : qstep P K' o E H = some r) : stepOp P K o e H = some r := by
  unfold qstep at hr
  unfold stepOp aop
  rw [qlop_eq, h.qeval] at hr
  split at hr
  · rename_i hl
    rw [if_pos hl]
    split at hr
    · rename_i v hv
      rw [hv]
      exact hr
    · cases hr
  · rename_i hl
    rw [if_neg (by rw [hl]; exact Bool.false_ne_true)]
    cases ha : hop P (aeval e) H o.op with
    | none => rw [ha] at hr; cases hr
    | some x =>
      rw [ha] at hr
      cases x with
      | val v H' => exact hr
      | enter f args => exact hK _ _ _ _ hr
theorem qrunL_of (hK : ∀ f args H r, K' f args H = some r → K f args H = some r) : ∀ (l : List Oper) {E : QEnv} {e : Env} {H : Hp} {E' : QEnv} {H' : Hp}, QSim E e → qrunL P K' ops l E H = some (E', H') → ∃ e', runL P K ops l e H = some (e', H') ∧ QSim E' e'
  | [], E, e, H, E', H', h, hr => by
    simp only [qrunL, Option.some.injEq, Prod.mk.injEq] at hr
    obtain ⟨rfl, rfl⟩ := hr
    exact ⟨e, rfl, h⟩
  | o :: l, E, e, H, E', H', h, hr => by
    unfold qrunL at hr
    unfold runL stepG
    rw [← qwanted_eq h]
    split at hr
    · rename_i hw
      rw [hw]
      split at hr
      · rename_i v H1 hs
        obtain ⟨e', h1, h2⟩ := qrunL_of hK l (h.put o.dst v) hr
        refine ⟨e', ?_, h2⟩
        simp only [Option.bind_some, if_true, qstep_of hK h hs, Option.map_some]
        exact h1
      · cases hr
    · rename_i hw
      rw [hw]
      obtain ⟨e', h1, h2⟩ := qrunL_of hK l (h.put o.dst NR) hr
      refine ⟨e', ?_, h2⟩
      simp only [Option.bind_some, if_false, Bool.false_eq_true]
      exact h1
    · cases hr
/-- How the two kinds of records hang together: what the quick ones tell the others tell; and each was told by one of the heaps. -/
def RecSim (P : Program) (ops : Array Oper) (Hs : List Hp) (frs : List QRec) (rs : List Rec) : Prop :=
  ∀ r ∈ rs, ∃ o, ops[r.i]? = some o ∧ (∃ H ∈ Hs, lval P ops o r.e H = some r.v) ∧ (readsMem o.op = false ∨ ∃ q ∈ frs, q.i = r.i ∧ q.v = r.v ∧ q.o = o ∧ ∃ e, QSim q.e e ∧ r.e = restr (tmpsOf ops o) e)
theorem RecSim.grow {Hs : List Hp} {H : Hp} {frs : List QRec} {rs : List Rec} (h : RecSim P ops Hs frs rs) : RecSim P ops (H :: Hs) frs rs := fun r hr => by
  obtain ⟨o, h1, ⟨H', h2, h3⟩, h4⟩ := h r hr
  exact ⟨o, h1, ⟨H', List.mem_cons_of_mem _ h2, h3⟩, h4⟩
theorem qrunD_of (hK : ∀ f args H r, K' f args H = some r → K f args H = some r) : ∀ (l : List Oper) (i : Nat) {E : QEnv} {e : Env} {H : Hp} {Hs : List Hp} {frs : List QRec} {rs : List Rec} {E' : QEnv} {Hs' : List Hp} {frs' : List QRec}, QSim E e → ops.toList.drop i = l → RecSim P ops (H :: Hs) frs rs →
    qrunD P K' ops l i E H Hs frs = some (E', Hs', frs') → ∃ e' rs', runD P K ops (List.range' i l.length) e (H :: Hs) rs = some (e', Hs', rs') ∧ QSim E' e' ∧ RecSim P ops Hs' frs' rs'
  | [], i, E, e, H, Hs, frs, rs, E', Hs', frs', h, hd, hR, hr => by
    simp only [qrunD, Option.some.injEq, Prod.mk.injEq] at hr
    obtain ⟨rfl, rfl, rfl⟩ := hr
    exact ⟨e, rs, rfl, h, hR⟩
  | o :: l, i, E, e, H, Hs, frs, rs, E', Hs', frs', h, hd, hR, hr => by
    have ho : ops[i]? = some o := by
      have := congrArg (fun l => l[0]?) hd
      simp only [List.getElem?_drop, Nat.add_zero, List.getElem?_cons_zero] at this
      rw [← Array.getElem?_toList]
      exact this
    have hd' : ops.toList.drop (i + 1) = l := by
      have := congrArg List.tail hd
      rwa [List.tail_drop, List.tail_cons] at this
    have hn : List.range' i (o :: l).length = i :: List.range' (i + 1) l.length := by rw [List.length_cons, List.range'_succ]
    rw [hn]
    unfold qrunD at hr
    unfold runD
    simp only [ho]
    split at hr
    · rename_i hl
      rw [if_pos hl]
      split at hr
      · rename_i v hv
        have hv' : lval P ops o (restr (tmpsOf ops o) e) H = some v := by rw [lval_restr, ← qlval_eq h]; exact hv
        rw [hv']
        split at hr
        · exact qrunD_of hK l (i + 1) (h.put o.dst v) hd' (fun r hr => by
            rcases List.mem_cons.1 hr with rfl | hr
            · exact ⟨o, ho, ⟨H, List.mem_cons_self, hv'⟩, .inr ⟨_, List.mem_cons_self, rfl, rfl, rfl, e, h, rfl⟩⟩
            · obtain ⟨o', h1, h2, h3⟩ := hR r hr
              refine ⟨o', h1, h2, h3.imp id ?_⟩
              rintro ⟨q, hq, h4⟩
              exact ⟨q, List.mem_cons_of_mem _ hq, h4⟩) hr
        · rename_i hm
          exact qrunD_of hK l (i + 1) (h.put o.dst v) hd' (fun r hr => by
            rcases List.mem_cons.1 hr with rfl | hr
            · exact ⟨o, ho, ⟨H, List.mem_cons_self, hv'⟩, .inl hm⟩
            · exact hR r hr) hr
      · cases hr
    · rename_i hl
      rw [if_neg (by rw [hl]; exact Bool.false_ne_true)]
      unfold hval
      rw [awanted_restr, ← qwanted_eq h]
      split at hr
      · rename_i hw
        rw [hw]
        split at hr
        · rename_i v H1 hs
          have hs' := qstep_of hK h hs
          have hs2 : stepOp P K o (restr (tmpsOf ops o) e) H = some (v, H1) := by
            unfold stepOp at hs' ⊢
            rw [aop_congr (P := P) H o.op (fun x hx => aeval_restr (ops := ops) (e := e) x hx)]
            exact hs'
          simp only [Option.bind_some, if_true, hs2]
          exact qrunD_of hK l (i + 1) (h.put o.dst v) hd' hR.grow hr
        · cases hr
      · rename_i hw
        rw [hw]
        simp only [Option.bind_some, if_false, Bool.false_eq_true]
        exact qrunD_of hK l (i + 1) (h.put o.dst NR) hd' hR.grow hr
      · cases hr
theorem frecs_of {al : Nat → Nat → Bool} {ok : List Hp → Rec → Bool} (hok : ∀ Hs r, ok Hs r = match ops[r.i]? with
      | some o => !readsMem o.op || (List.range Hs.length).all fun k => !al k r.i || (match Hs[k]? with
        | some H => match lval P ops o r.e H with | some v => vbeq v r.v | none => false
        | none => false)
      | none => false) {Hs : List Hp} {frs : List QRec} {rs : List Rec} (hR : RecSim P ops Hs frs rs) (h : qrecsOk P ops al Hs.reverse frs = true) : rs.all (ok Hs.reverse) = true := by
  rw [List.all_eq_true]
  intro r hr
  obtain ⟨o, ho, ⟨H, hH, hl⟩, h2⟩ := hR r hr
  rw [hok, ho]
  simp only [Bool.or_eq_true, Bool.not_eq_true']
  rcases h2 with h2 | ⟨q, hq, q1, q2, q3, e, he, hre⟩
  · exact .inl h2
  · refine .inr ?_
    unfold qrecsOk at h
    split at h
    · rename_i H1 hs
      have hs' : Hs = [H1] := by
        have := congrArg List.reverse hs
        simpa using this
      subst hs'
      obtain rfl : H = H1 := by simpa using hH
      rw [List.all_eq_true]
      intro k hk
      rw [List.mem_range] at hk
      obtain rfl : k = 0 := by simp at hk; exact hk
      simp only [List.reverse_cons, List.reverse_nil, List.nil_append, List.getElem?_cons_zero, hl, vbeq_self, Bool.or_true]
    · rw [List.all_eq_true] at h
      have h3 := h q hq
      unfold qrecOk at h3
      rw [List.all_eq_true] at h3 ⊢
      intro k hk
      have h4 := h3 k hk
      rw [q1, q2, q3] at h4
      rw [hre, ]
      cases hx : Hs.reverse[k]? with
      | none => rw [hx] at h4; exact h4
      | some H2 =>
        rw [hx] at h4
        dsimp only at h4 ⊢
        rw [lval_restr, ← qlval_eq he]
        exact h4
theorem qrunRegion_of (hK : ∀ f args H r, K' f args H = some r → K f args H = some r) {draw : Bool} {E : QEnv} {e : Env} {H : Hp} {E' : QEnv} {H' : Hp} (h : QSim E e) (hr : qrunRegion P K' ops draw E H = some (E', H')) : ∃ e', runRegion P K ops draw e H = some (e', H') ∧ QSim E' e' := by
  have hrg : List.range ops.size = List.range' 0 ops.toList.length := by rw [List.range_eq_range', Array.length_toList]
  unfold qrunRegion at hr
  unfold runRegion
  split at hr
  · rw [if_pos rfl]
    split at hr
    · rename_i hd
      rw [if_pos hd]
      split at hr
      · rename_i E1 H1 Hs rs hD
        obtain ⟨e', rs', h1, h2, h3⟩ := qrunD_of hK ops.toList 0 h rfl (rs := []) (fun r hr => by cases hr) hD
        split at hr
        · rename_i hok
          cases hr
          refine ⟨e', ?_, h2⟩
          rw [hrg, h1]
          simp only [Option.bind_some]
          rw [if_pos (frecs_of (ok := recOk P ops) (fun Hs r => by unfold recOk; rfl) h3 hok)]
          rfl
        · cases hr
      · cases hr
    · rename_i hd
      rw [if_neg (by rw [hd]; exact Bool.false_ne_true)]
      split at hr
      · rename_i hd2
        rw [if_pos hd2]
        split at hr
        · rename_i E1 H1 Hs rs hD
          obtain ⟨e', rs', h1, h2, h3⟩ := qrunD_of hK ops.toList 0 h rfl (rs := []) (fun r hr => by cases hr) hD
          split at hr
          · rename_i hok
            cases hr
            rw [Bool.and_eq_true] at hok
            refine ⟨e', ?_, h2⟩
            rw [hrg, h1]
            simp only [Option.bind_some]
            rw [if_pos (by rw [Bool.and_eq_true]; exact ⟨hok.1, frecs_of (ok := recOk2 P ops) (fun Hs r => by unfold recOk2; rfl) h3 hok.2⟩)]
            rfl
          · cases hr
        · cases hr
      · cases hr
  · rw [if_neg Bool.false_ne_true]
    exact qrunL_of hK _ h hr
theorem qiter_of {g' : QEnv → Hp → Option (Ex × QEnv × Hp)} {g : Env → Hp → Option (Ex × Env × Hp)} (hg : ∀ E e H x E' H', QSim E e → g' E H = some (x, E', H') → ∃ e', g e H = some (x, e', H') ∧ QSim E' e') : ∀ (n : Nat) {E : QEnv} {e : Env} {H : Hp} {x : Ex} {E' : QEnv} {H' : Hp}, QSim E e → qiter g' n E H = some (x, E', H') → ∃ e', iter g n e H = some (x, e', H') ∧ QSim E' e'
  | 0, _, _, _, _, _, _, _, hr => by cases hr
  | n + 1, E, e, H, x, E', H', h, hr => by
    unfold qiter at hr
    unfold iter
    split at hr
    · rename_i E1 H1 h1
      obtain ⟨e1, h2, h3⟩ := hg _ _ _ _ _ _ h h1
      rw [h2]
      exact qiter_of hg n h3 hr
    · rename_i hn
      obtain ⟨e1, h2, h3⟩ := hg _ _ _ _ _ _ h hr
      refine ⟨e1, ?_, h3⟩
      rw [h2]
      cases x with
      | normal => exact absurd hr (hn _ _)
      | exit j => rfl
      | ret => rfl
theorem qrunC_of (hK : ∀ f args H r, K' f args H = some r → K f args H = some r) (n : Nat) : ∀ (c : Code) {E : QEnv} {e : Env} {H : Hp} {x : Ex} {E' : QEnv} {H' : Hp}, QSim E e → qrunC P K' n c E H = some (x, E', H') → ∃ e', runC P K n c e H = some (x, e', H') ∧ QSim E' e' := by
  intro c
  induction c with
  | skip => intro E e H x E' H' h hr; simp only [qrunC, Option.some.injEq, Prod.mk.injEq] at hr; obtain ⟨rfl, rfl, rfl⟩ := hr; exact ⟨e, rfl, h⟩
  | ret => intro E e H x E' H' h hr; simp only [qrunC, Option.some.injEq, Prod.mk.injEq] at hr; obtain ⟨rfl, rfl, rfl⟩ := hr; exact ⟨e, rfl, h⟩
  | exit id => intro E e H x E' H' h hr; simp only [qrunC, Option.some.injEq, Prod.mk.injEq] at hr; obtain ⟨rfl, rfl, rfl⟩ := hr; exact ⟨e, rfl, h⟩
  | region k ops draw =>
    intro E e H x E' H' h hr
    unfold qrunC at hr
    split at hr
    · rename_i E1 H1 h1
      cases hr
      obtain ⟨e', h2, h3⟩ := qrunRegion_of hK h h1
      exact ⟨e', by unfold runC; rw [h2]; rfl, h3⟩
    · cases hr
  | seq a b iha ihb =>
    intro E e H x E' H' h hr
    unfold qrunC at hr
    unfold runC
    split at hr
    · rename_i E1 H1 h1
      obtain ⟨e1, h2, h3⟩ := iha h h1
      rw [h2]
      exact ihb h3 hr
    · rename_i hn
      obtain ⟨e1, h2, h3⟩ := iha h hr
      refine ⟨e1, ?_, h3⟩
      rw [h2]
      cases x with
      | normal => exact absurd hr (hn _ _)
      | exit j => rfl
      | ret => rfl
  | cond c a b iha ihb =>
    intro E e H x E' H' h hr
    unfold qrunC at hr
    unfold runC
    rw [h.qeval] at hr
    split at hr
    · rename_i hc
      rw [hc]
      exact iha h hr
    · rename_i hc
      rw [hc]
      exact ihb h hr
    · cases hr
  | block id c ih =>
    intro E e H x E' H' h hr
    unfold qrunC at hr
    unfold runC
    split at hr
    · rename_i j E1 H1 h1
      obtain ⟨e1, h2, h3⟩ := ih h h1
      rw [h2]
      split at hr
      · rename_i hb
        cases hr
        refine ⟨e1, ?_, h3⟩
        simp only [Option.map_some, if_pos (Nat.eq_of_beq_eq_true hb)]
      · rename_i hb
        cases hr
        refine ⟨e1, ?_, h3⟩
        have : ¬ j = id := fun he => by rw [he, Nat.beq_refl] at hb; cases hb
        simp only [Option.map_some, if_neg this]
    · rename_i hn
      obtain ⟨e1, h2, h3⟩ := ih h hr
      refine ⟨e1, ?_, h3⟩
      rw [h2]
      cases x with
      | normal => rfl
      | exit j => exact absurd hr (hn _ _ _)
      | ret => rfl
  | loop c ih =>
    intro E e H x E' H' h hr
    unfold qrunC at hr
    unfold runC
    exact qiter_of (g' := qrunC P K' n c) (g := runC P K n c) (fun E e H x E' H' hs h1 => ih hs h1) n h hr
  | _ => intro E e H x E' H' h hr; simp [qrunC] at hr
theorem qresult_eq (h : QSim E e) (H : Hp) (r : ResultVar) : qresult P E H r = aresult P e H r := by
  cases r with
  | tmp t => show some (qget t E) = some (eget e t); rw [h t]
  | cell a t => show aload P t (qget a E) H = aload P t (eget e a) H; rw [h a]
theorem qresults_eq (h : QSim E e) (H : Hp) : ∀ l, qresults P E H l = aresults P e H l
  | [] => rfl
  | r :: rs => by
    unfold qresults aresults
    rw [qresult_eq h, qresults_eq h H rs]
    cases aresult P e H r with
    | none => rfl
    | some v => cases aresults P e H rs <;> rfl
theorem qrun_of {X : Outer} : ∀ (n : Nat) (f : FuncId) (args : List Value) (H : Hp) (r : Value × Hp), qrun P X n f args H = some r → run P X n f args H = some r
  | 0, _, _, _, _, hr => by cases hr
  | n + 1, f, args, H, r, hr => by
    unfold qrun at hr
    unfold run
    split at hr
    · rename_i g hg
      rw [hg]
      exact hr
    · rename_i hg
      rw [hg]
      split at hr
      · cases hr
      · rename_i fn hf
        rw [hf]
        split at hr
        · cases hr
        · rename_i c hc
          simp only [hc]
          split at hr
          · rename_i hd
            rw [Bool.and_eq_true] at hd
            rw [if_pos ⟨hd.1, Nat.le_of_ble_eq_true hd.2⟩]
            split at hr
            · cases hr
            · rename_i x E1 H1 hn h1
              obtain ⟨e1, h2, h3⟩ := qrunC_of (K := run P X n) (fun f args H r h => qrun_of n f args H r h) n c (QSim.env args) h1
              rw [h2]
              split at hr
              · rename_i vs hv
                cases hr
                rw [qresults_eq h3] at hv
                cases x with
                | exit j => exact absurd rfl (hn j)
                | normal => simp only [Option.bind_some, finish, hv, Option.map_some]
                | ret => simp only [Option.bind_some, finish, hv, Option.map_some]
              · cases hr
            · cases hr
          · cases hr
end
end Go.Proofs.YtmdpggecelheoaaDoor.Abs
/- The quick evaluator with its texts made into functions once (the kernel keeps them). -/
set_option linter.unusedVariables false
set_option linter.unusedSimpArgs false
namespace Go.Proofs.YtmdpggecelheoaaDoor.Abs
open Go
structure LW where
  f : QEnv → Hp → Option Value
structure HW where
  f : CallFn → QEnv → Hp → Option (Value × Hp)
structure DW where
  f : CallFn → QEnv → Hp → List Hp → List QRec → Option (QEnv × List Hp × List QRec)
structure LL where
  f : CallFn → QEnv → Hp → Option (QEnv × Hp)
structure CW where
  f : CallFn → Nat → QEnv → Hp → Option (Ex × QEnv × Hp)
/-- A list, reckoned out, handed on. -/
def qforce {α : Type} : List UInt8 → (List UInt8 → α) → α
  | [], k => k []
  | a :: l, k => qforce l fun l' => k (a :: l')
theorem qforce_eq {α : Type} : ∀ (l : List UInt8) (k : List UInt8 → α), qforce l k = k l
  | [], _ => rfl
  | a :: l, k => qforce_eq l fun l' => k (a :: l')
/-- A text, reckoned out. -/
def qtext (v : Value) : Value := match v with
  | .string s => qforce s.data.toList fun l => .string ⟨⟨l⟩⟩
  | v => v
theorem qtext_eq (v : Value) : qtext v = v := by
  unfold qtext
  split
  · rw [qforce_eq]
  · rfl
/-- The same, handed on: a text's bytes are reckoned out first. -/
def qhand {α : Type} (v : Value) (k : Value → α) : α := match v with
  | .string s => qforce s.data.toList fun l => k (.string ⟨⟨l⟩⟩)
  | v => k v
theorem qhand_eq {α : Type} (v : Value) (k : Value → α) : qhand v k = k v := by
  unfold qhand
  split
  · rw [qforce_eq]
  · rfl
def qout (o : Option Value) : Option Value := match o with
  | some v => qhand v some
  | none => none
theorem qout_eq (o : Option Value) : qout o = o := by
  cases o with
  | none => rfl
  | some v => exact qhand_eq v some
section
variable (P : Program)
def loadW (t : TypeId) (a : Operand) : LW := match P.underlying t with
  | none => ⟨fun E H => aload P t (qeval E a) H⟩
  | some u => match isAggT P t with
    | true => (match szT P t with
      | some n => ⟨fun E H => match qeval E a with
        | .pointer (some b) => (match cellsAt H b n with
          | some c => some (.agg c.toArray)
          | none => none)
        | _ => none⟩
      | none => ⟨fun _ _ => none⟩)
    | false => ⟨fun E H => match qeval E a with
      | .pointer (some b) => cellAt H b
      | _ => none⟩
theorem loadW_eq (t : TypeId) (a : Operand) (E : QEnv) (H : Hp) : (loadW P t a).f E H = aload P t (qeval E a) H := by
  unfold loadW
  split
  · rfl
  · rename_i u hu
    unfold aload
    split
    · rename_i hg
      split
      · rename_i n hn
        show (match qeval E a with
          | .pointer (some b) => (match cellsAt H b n with
            | some c => some (Value.agg c.toArray)
            | none => none)
          | _ => (none : Option Value)) = _
        simp only [hu, hg, if_true, hn, Option.bind_some]
        generalize qeval E a = v
        cases v with
        | pointer p =>
          cases p with
          | none => rfl
          | some b =>
            dsimp only
            cases cellsAt H b n <;> rfl
        | _ => rfl
      · rename_i hn
        show none = _
        simp only [hu, hg, if_true, hn, Option.bind_none]
        generalize qeval E a = v
        cases v with
        | pointer p => cases p <;> rfl
        | _ => rfl
    · rename_i hg
      show (match qeval E a with
        | .pointer (some b) => cellAt H b
        | _ => none) = _
      simp only [hu, hg, if_false, Bool.false_eq_true]
      rfl
def clop (op : Op) : LW := match op with
  | .move x => ⟨fun E _ => some (qeval E x)⟩
  | .assign x => ⟨fun E _ => some (qeval E x)⟩
  | .load t a => loadW P t a
  | .binOp op t x y _ => ⟨fun E _ => qout (qbin P op t x y (qeval E x) (qeval E y))⟩
  | .slice t x lo hi mx => ⟨fun E H => qout (lop P (qeval E) H (.slice t x lo hi mx))⟩
  | .convert src dst x => ⟨fun E H => qout (lop P (qeval E) H (.convert src dst x))⟩
  | .nilCheck x => ⟨fun E _ => match qeval E x with
    | .pointer (some a) => some (.pointer (some a))
    | .func (.func f) a b => some (.func (.func f) a b)
    | _ => none⟩
  | .fieldAddr t x i => (match place P t i with
    | none => ⟨fun E H => lop P (qeval E) H (.fieldAddr t x i)⟩
    | some p => ⟨fun E _ => match qeval E x with
      | .pointer (some a) => if p.2 ≠ 0 ∧ a.spot = none then some (.pointer (some ⟨a.block, a.off + p.1, none⟩)) else none
      | _ => none⟩)
  | .indexAddr t x i => ⟨fun E _ => aindexAddr P t (qeval E x) (qeval E i)⟩
  | .index t x i => ⟨fun E _ => aindex P t (qeval E x) (qeval E i)⟩
  | .extract x i => ⟨fun E _ => match qeval E x with
    | .tuple vs => vs[i]?
    | _ => none⟩
  | .call c => (match c.callee, c.argTypes.toList, c.args.toList with
    | .builtin .len, [t], [x] => ⟨fun E H => alen P t (qeval E x) H⟩
    | _, _, _ => ⟨fun E H => lop P (qeval E) H (.call c)⟩)
  | op => ⟨fun E H => lop P (qeval E) H op⟩
theorem clop_eq (op : Op) (E : QEnv) (H : Hp) : (clop P op).f E H = qlop P E H op := by
  rw [qlop_eq]
  unfold clop
  split
  · rfl
  · rfl
  · rw [loadW_eq]; rfl
  · show qout (qbin P _ _ _ _ _ _) = _
    rw [qout_eq, qbin_eq]; rfl
  · exact qout_eq _
  · exact qout_eq _
  · rfl
  · rename_i t x i
    split
    · rfl
    · rename_i p hp
      show (match qeval E x with
        | .pointer (some a) => if p.2 ≠ 0 ∧ a.spot = none then some (.pointer (some ⟨a.block, a.off + p.1, none⟩)) else none
        | _ => none) = lop P (qeval E) H (.fieldAddr t x i)
      simp only [lop, hp, Option.bind_some]
      try rfl
  · rfl
  · rfl
  · rfl
  · rename_i c
    split
    · rename_i t x h1 h2 h3
      simp only [lop, h1, h2, h3]
    · rfl
  · rfl
def chop (op : Op) : HW := match op with
  | .call c => (match c.callee with
    | .value (.func g) => (match funcOk P g with
      | true => ⟨fun K E H => K g (c.args.toList.map (qeval E)) H⟩
      | false => ⟨fun _ _ _ => none⟩)
    | _ => ⟨fun K E H => match hop P (qeval E) H (.call c) with
      | some (.val v H') => qhand v fun v => some (v, H')
      | some (.enter f args) => K f args H
      | none => none⟩)
  | op => ⟨fun K E H => match hop P (qeval E) H op with
    | some (.val v H') => some (v, H')
    | some (.enter f args) => K f args H
    | none => none⟩
theorem chop_eq (op : Op) (K : CallFn) (E : QEnv) (H : Hp) : (chop P op).f K E H = match hop P (qeval E) H op with
    | some (.val v H') => some (v, H')
    | some (.enter f args) => K f args H
    | none => none := by
  unfold chop
  split
  · rename_i c
    split
    · rename_i g hg
      split
      · rename_i hf
        simp only [hop, hg, qeval, hf, if_true]
        simp
      · rename_i hf
        simp only [hop, hg, qeval, hf, if_false, Bool.false_eq_true]
    · simp only [qhand_eq]
  · rfl
/-- A row of operations in an open region. -/
def cD (ops : Array Oper) : List Oper → Nat → DW
  | [], _ => ⟨fun _ E H Hs rs => some (E, H :: Hs, rs)⟩
  | o :: l, i => match cD ops l (i + 1) with
    | ⟨k⟩ => match o.guard with
      | none => (match light P o.op with
        | true => (match clop P o.op with
          | ⟨f⟩ => (match readsMem o.op with
            | true => ⟨fun K E H Hs rs => match f E H with
              | some v => k K (qput E o.dst v) H Hs (⟨i, o, E, v⟩ :: rs)
              | none => none⟩
            | false => ⟨fun K E H Hs rs => match f E H with
              | some v => k K (qput E o.dst v) H Hs rs
              | none => none⟩))
        | false => (match chop P o.op with
          | ⟨f⟩ => ⟨fun K E H Hs rs => match f K E H with
            | some (v, H') => k K (qput E o.dst v) H' (H :: Hs) rs
            | none => none⟩))
      | some _ => ⟨fun K E H Hs rs => qrunD P K ops (o :: l) i E H Hs rs⟩
theorem cD_eq (K : CallFn) (ops : Array Oper) : ∀ (l : List Oper) (i : Nat) (E : QEnv) (H : Hp) (Hs : List Hp) (rs : List QRec), (cD P ops l i).f K E H Hs rs = qrunD P K ops l i E H Hs rs
  | [], _, _, _, _, _ => rfl
  | o :: l, i, E, H, Hs, rs => by
    have ih := cD_eq K ops l (i + 1)
    unfold cD
    split
    rename_i k hk
    rw [hk] at ih
    simp only at ih
    split
    · rename_i hg
      have hw : ∀ E, qwanted ops o E = some true := fun E => by unfold qwanted; rw [hg]
      unfold qrunD
      split
      · rename_i hl
        split
        rename_i f hf
        have hv : f E H = qlval P ops o E H := by
          have := clop_eq P o.op E H
          rw [hf] at this
          unfold qlval
          rw [hw]
          exact this
        split
        · rename_i hm
          simp only [hl, hv, hm]
          cases qlval P ops o E H with
          | none => rfl
          | some v => exact ih _ _ _ _
        · rename_i hm
          simp only [hl, hv, hm]
          cases qlval P ops o E H with
          | none => rfl
          | some v => exact ih _ _ _ _
      · rename_i hl
        split
        rename_i f hf
        have hv : f K E H = qstep P K o E H := by
          have := chop_eq P o.op K E H
          rw [hf] at this
          unfold qstep
          rw [hl]
          exact this
        simp only [hl, hv, hw]
        cases qstep P K o E H with
        | none => rfl
        | some r => exact ih _ _ _ _
    · rfl
/-- A row of operations in a region in order. -/
def cL (ops : Array Oper) : List Oper → LL
  | [] => ⟨fun _ E H => some (E, H)⟩
  | o :: l => match cL ops l with
    | ⟨k⟩ => match o.guard with
      | none => (match light P o.op with
        | true => (match clop P o.op with
          | ⟨f⟩ => ⟨fun K E H => match f E H with
            | some v => k K (qput E o.dst v) H
            | none => none⟩)
        | false => (match chop P o.op with
          | ⟨f⟩ => ⟨fun K E H => match f K E H with
            | some (v, H') => k K (qput E o.dst v) H'
            | none => none⟩))
      | some _ => ⟨fun K E H => qrunL P K ops (o :: l) E H⟩
theorem cL_eq (K : CallFn) (ops : Array Oper) : ∀ (l : List Oper) (E : QEnv) (H : Hp), (cL P ops l).f K E H = qrunL P K ops l E H
  | [], _, _ => rfl
  | o :: l, E, H => by
    have ih := cL_eq K ops l
    unfold cL
    split
    rename_i k hk
    rw [hk] at ih
    simp only at ih
    split
    · rename_i hg
      have hw : ∀ E, qwanted ops o E = some true := fun E => by unfold qwanted; rw [hg]
      unfold qrunL
      rw [hw]
      split
      · rename_i hl
        split
        rename_i f hf
        have hv : qstep P K o E H = match f E H with | some v => some (v, H) | none => none := by
          have := clop_eq P o.op E H
          rw [hf] at this
          unfold qstep
          rw [hl, ← this]
          try rfl
        simp only [hv]
        cases f E H with
        | none => rfl
        | some v => exact ih _ _
      · rename_i hl
        split
        rename_i f hf
        have hv : f K E H = qstep P K o E H := by
          have := chop_eq P o.op K E H
          rw [hf] at this
          unfold qstep
          rw [hl]
          exact this
        simp only [hv]
        cases qstep P K o E H with
        | none => rfl
        | some r => exact ih _ _
    · rfl
def cC : Code → CW
  | .skip => ⟨fun _ _ E H => some (.normal, E, H)⟩
  | .ret => ⟨fun _ _ E H => some (.ret, E, H)⟩
  | .exit id => ⟨fun _ _ E H => some (.exit id, E, H)⟩
  | .region _ ops draw => (match draw with
    | true => (match drawOk P ops with
      | true => (match cD P ops ops.toList 0 with
        | ⟨k⟩ => ⟨fun K _ E H => match k K E H [] [] with
          | some (E', H' :: Hs, rs) => (match qrecsOk P ops (allowed P ops) (H' :: Hs).reverse rs with
            | true => some (.normal, E', H')
            | false => none)
          | _ => none⟩)
      | false => ⟨fun K _ E H => match qrunRegion P K ops true E H with
        | some (E', H') => some (.normal, E', H')
        | none => none⟩)
    | false => (match cL P ops ops.toList with
      | ⟨k⟩ => ⟨fun K _ E H => match k K E H with
        | some (E', H') => some (.normal, E', H')
        | none => none⟩))
  | .seq a b => (match cC a, cC b with
    | ⟨f⟩, ⟨g⟩ => ⟨fun K n E H => match f K n E H with
      | some (.normal, E', H') => g K n E' H'
      | r => r⟩)
  | .cond c a b => (match cC a, cC b with
    | ⟨f⟩, ⟨g⟩ => ⟨fun K n E H => match qeval E c with
      | .bool true => f K n E H
      | .bool false => g K n E H
      | _ => none⟩)
  | .block id c => (match cC c with
    | ⟨f⟩ => ⟨fun K n E H => match f K n E H with
      | some (.exit j, E', H') => (match Nat.beq j id with
        | true => some (.normal, E', H')
        | false => some (.exit j, E', H'))
      | r => r⟩)
  | .loop c => (match cC c with
    | ⟨f⟩ => ⟨fun K n E H => qiter (f K n) n E H⟩)
  | c => ⟨fun K n E H => qrunC P K n c E H⟩
theorem cC_eq (K : CallFn) (n : Nat) : ∀ (c : Code) (E : QEnv) (H : Hp), (cC P c).f K n E H = qrunC P K n c E H := by
  intro c
  induction c with
  | region k ops draw =>
    intro E H
    unfold cC qrunC
    split
    · split
      · rename_i hd
        split
        rename_i k' hk
        have h1 := cD_eq P K ops ops.toList 0 E H [] []
        rw [hk] at h1
        simp only at h1
        simp only [qrunRegion, hd, h1]
        cases qrunD P K ops ops.toList 0 E H [] [] with
        | none => rfl
        | some r =>
          obtain ⟨E', Hs, rs⟩ := r
          cases Hs with
          | nil => rfl
          | cons H' Hs =>
            dsimp only
            cases qrecsOk P ops (allowed P ops) (H' :: Hs).reverse rs <;> rfl
      · rfl
    · split
      rename_i k' hk
      have h1 := cL_eq P K ops ops.toList E H
      rw [hk] at h1
      simp only at h1
      simp only [qrunRegion, h1]
      try rfl
  | seq a b iha ihb =>
    intro E H
    unfold cC qrunC
    split
    rename_i f g hf hg
    rw [hf] at iha
    rw [hg] at ihb
    simp only at iha ihb
    simp only [iha, ihb]
    try rfl
  | cond c a b iha ihb =>
    intro E H
    unfold cC qrunC
    split
    rename_i f g hf hg
    rw [hf] at iha
    rw [hg] at ihb
    simp only at iha ihb
    simp only [iha, ihb]
    try rfl
  | block id c ih =>
    intro E H
    unfold cC qrunC
    split
    rename_i f hf
    rw [hf] at ih
    simp only at ih
    simp only [ih]
    try rfl
  | loop c ih =>
    intro E H
    unfold cC qrunC
    split
    rename_i f hf
    rw [hf] at ih
    simp only at ih
    have : f K n = qrunC P K n c := by funext E H; exact ih E H
    simp only [this]
  | _ => intro E H; rfl
def crun (X : Outer) : Nat → CallFn
  | 0, _, _, _ => none
  | n + 1, f, args, H => match X f with
    | some g => g args H
    | none => match P.funcs[f]? with
      | none => none
      | some fn => match fn.body with
        | none => none
        | some c => match dstOk fn.ntmps c && Nat.ble args.length fn.ntmps with
          | true => (match cC P c with
            | ⟨g⟩ => match g (crun X n) n (qenv 0 args) H with
              | some (.exit _, _, _) => none
              | some (_, E, H') => (match qresults P E H' fn.results.toList with
                | some vs => some (ret1 vs, H')
                | none => none)
              | none => none)
          | false => none
theorem crun_eq (X : Outer) : ∀ n, crun P X n = qrun P X n
  | 0 => rfl
  | n + 1 => by
    funext f args H
    unfold crun qrun
    rw [crun_eq X n]
    cases X f with
    | some g => rfl
    | none =>
      dsimp only
      cases P.funcs[f]? with
      | none => rfl
      | some fn =>
        dsimp only
        cases fn.body with
        | none => rfl
        | some c =>
          dsimp only
          cases dstOk fn.ntmps c && Nat.ble args.length fn.ntmps with
          | false => rfl
          | true =>
            dsimp only
            have h2 := cC_eq P (qrun P X n) n c (qenv 0 args) H
            cases hq : cC P c with
            | mk g =>
              rw [hq] at h2
              dsimp only at h2 ⊢
              rw [h2]
              try rfl
end
end Go.Proofs.YtmdpggecelheoaaDoor.Abs
/- The library's contracts at this program, printed by the shelf's own tool in plain words. -/
namespace Go.Proofs
open Go.Shelf
def Tryd.laysM171_ren : Go.Shelf.Ren := ⟨fun | 171 => 62 | 243 => 81 | 246 => 143 | 283 => 166 | 284 => 167 | 285 => 168 | 286 => 169 | 129 => 179 | 317 => 178 | 318 => 180 | 319 => 181 | 320 => 182 | 337 => 184 | 338 => 185 | n => n, fun | 3 => 3 | 9 => 9 | 2 => 2 | 4 => 4 | 171 => 163 | 0 => 0 | 53 => 110 | 37 => 129 | 5 => 5 | 173 => 166 | 212 => 177 | 51 => 154 | 20 => 20 | 213 => 178 | 46 => 127 | 232 => 183 | 233 => 184 | n => n, fun | 17 => 3 | 18 => 4 | 19 => 5 | n => n⟩
theorem Tryd.laysM171 : Go.Proofs.LaysM.n171 Tryd.prog Tryd.laysM171_ren := {
  mixed := by kernel_rfl
  f129 := Tryd.func179.trans (congrArg some (by kernel_rfl))
  f171 := Tryd.func62.trans (congrArg some (by kernel_rfl))
  f243 := Tryd.func81.trans (congrArg some (by kernel_rfl))
  f246 := Tryd.func143.trans (congrArg some (by kernel_rfl))
  f283 := Tryd.func166.trans (congrArg some (by kernel_rfl))
  f284 := Tryd.func167.trans (congrArg some (by kernel_rfl))
  f285 := Tryd.func168.trans (congrArg some (by kernel_rfl))
  f286 := Tryd.func169.trans (congrArg some (by kernel_rfl))
  f317 := Tryd.func178.trans (congrArg some (by kernel_rfl))
  f318 := Tryd.func180.trans (congrArg some (by kernel_rfl))
  f319 := Tryd.func181.trans (congrArg some (by kernel_rfl))
  f320 := Tryd.func182.trans (congrArg some (by kernel_rfl))
  f337 := Tryd.func184.trans (congrArg some (by kernel_rfl))
  f338 := Tryd.func185.trans (congrArg some (by kernel_rfl))
  t0 := Tryd.underlying0
  a0 := Tryd.isAgg0
  z0 := Tryd.sizeOf0
  v0 := Tryd.zeroValue0
  t2 := Tryd.underlying2
  a2 := Tryd.isAgg2
  z2 := Tryd.sizeOf2
  v2 := Tryd.zeroValue2
  t3 := Tryd.underlying3
  a3 := Tryd.isAgg3
  z3 := Tryd.sizeOf3
  v3 := Tryd.zeroValue3
  t4 := Tryd.underlying4
  a4 := Tryd.isAgg4
  z4 := Tryd.sizeOf4
  v4 := Tryd.zeroValue4
  t5 := Tryd.underlying5
  a5 := Tryd.isAgg5
  z5 := Tryd.sizeOf5
  v5 := Tryd.zeroValue5
  t9 := Tryd.underlying9
  a9 := Tryd.isAgg9
  z9 := Tryd.sizeOf9
  v9 := Tryd.zeroValue9
  t20 := Tryd.underlying20
  a20 := Tryd.isAgg20
  z20 := Tryd.sizeOf20
  v20 := Tryd.zeroValue20
  t37 := Tryd.underlying129
  a37 := Tryd.isAgg129
  z37 := Tryd.sizeOf129
  v37 := Tryd.zeroValue129
  t46 := Tryd.underlying127
  a46 := Tryd.isAgg127
  z46 := Tryd.sizeOf127
  v46 := Tryd.zeroValue127
  t51 := Tryd.underlying154
  a51 := Tryd.isAgg154
  z51 := Tryd.sizeOf154
  v51 := Tryd.zeroValue154
  t53 := Tryd.underlying110
  a53 := Tryd.isAgg110
  z53 := Tryd.sizeOf110
  v53 := Tryd.zeroValue110
  t171 := Tryd.underlying163
  a171 := Tryd.isAgg163
  z171 := Tryd.sizeOf163
  v171 := Tryd.zeroValue163
  t173 := Tryd.underlying166
  a173 := Tryd.isAgg166
  z173 := Tryd.sizeOf166
  v173 := Tryd.zeroValue166
  t212 := Tryd.underlying177
  a212 := Tryd.isAgg177
  z212 := Tryd.sizeOf177
  v212 := Tryd.zeroValue177
  t213 := Tryd.underlying178
  a213 := Tryd.isAgg178
  z213 := Tryd.sizeOf178
  t232 := Tryd.underlying183
  a232 := Tryd.isAgg183
  z232 := Tryd.sizeOf183
  v232 := Tryd.zeroValue183
  t233 := Tryd.underlying184
  a233 := Tryd.isAgg184
  z233 := Tryd.sizeOf184
  v233 := Tryd.zeroValue184
  g17 := by kernel_rfl
  g18 := by kernel_rfl
  g19 := by kernel_rfl
  i0 := by kernel_rfl
  i2 := by kernel_rfl
  i3 := by kernel_rfl
  i4 := by kernel_rfl
  i5 := by kernel_rfl
  i9 := by kernel_rfl
  i20 := by kernel_rfl
  i37 := by kernel_rfl
  i46 := by kernel_rfl
  i51 := by kernel_rfl
  i53 := by kernel_rfl
  i171 := by kernel_rfl
  i173 := by kernel_rfl
  i212 := by kernel_rfl
  i232 := by kernel_rfl
  i233 := by kernel_rfl
  m17 := by kernel_rfl
  m18 := by kernel_rfl
  m19 := by kernel_rfl }
def Tryd.laysC172_ren : Go.Shelf.Ren := ⟨fun | 172 => 60 | 244 => 79 | 245 => 80 | 247 => 138 | 279 => 139 | 280 => 140 | 281 => 141 | 282 => 142 | 287 => 163 | 316 => 164 | 171 => 62 | 205 => 165 | 321 => 176 | 322 => 177 | 243 => 81 | 246 => 143 | 283 => 166 | 284 => 167 | 285 => 168 | 286 => 169 | 129 => 179 | 317 => 178 | 318 => 180 | 319 => 181 | 320 => 182 | 337 => 184 | 338 => 185 | n => n, fun | 9 => 9 | 3 => 3 | 75 => 91 | 76 => 92 | 4 => 4 | 5 => 5 | 167 => 128 | 37 => 129 | 0 => 0 | 85 => 130 | 2 => 2 | 168 => 132 | 53 => 110 | 175 => 157 | 46 => 127 | 210 => 161 | 127 => 170 | 145 => 175 | 143 => 173 | 21 => 21 | 171 => 163 | 173 => 166 | 212 => 177 | 51 => 154 | 20 => 20 | 213 => 178 | 232 => 183 | 233 => 184 | 80 => 107 | n => n, fun | 15 => 1 | 16 => 2 | 17 => 3 | 18 => 4 | 19 => 5 | n => n⟩
theorem Tryd.laysC172 : Go.Proofs.LaysC.n172 Tryd.prog Tryd.laysC172_ren := {
  mixed := by kernel_rfl
  f129 := Tryd.func179.trans (congrArg some (by kernel_rfl))
  f171 := Tryd.func62.trans (congrArg some (by kernel_rfl))
  f172 := Tryd.func60.trans (congrArg some (by kernel_rfl))
  f205 := Tryd.func165.trans (congrArg some (by kernel_rfl))
  f243 := Tryd.func81.trans (congrArg some (by kernel_rfl))
  f244 := Tryd.func79.trans (congrArg some (by kernel_rfl))
  f245 := Tryd.func80.trans (congrArg some (by kernel_rfl))
  f246 := Tryd.func143.trans (congrArg some (by kernel_rfl))
  f247 := Tryd.func138.trans (congrArg some (by kernel_rfl))
  f279 := Tryd.func139.trans (congrArg some (by kernel_rfl))
  f280 := Tryd.func140.trans (congrArg some (by kernel_rfl))
  f281 := Tryd.func141.trans (congrArg some (by kernel_rfl))
  f282 := Tryd.func142.trans (congrArg some (by kernel_rfl))
  f283 := Tryd.func166.trans (congrArg some (by kernel_rfl))
  f284 := Tryd.func167.trans (congrArg some (by kernel_rfl))
  f285 := Tryd.func168.trans (congrArg some (by kernel_rfl))
  f286 := Tryd.func169.trans (congrArg some (by kernel_rfl))
  f287 := Tryd.func163.trans (congrArg some (by kernel_rfl))
  f316 := Tryd.func164.trans (congrArg some (by kernel_rfl))
  f317 := Tryd.func178.trans (congrArg some (by kernel_rfl))
  f318 := Tryd.func180.trans (congrArg some (by kernel_rfl))
  f319 := Tryd.func181.trans (congrArg some (by kernel_rfl))
  f320 := Tryd.func182.trans (congrArg some (by kernel_rfl))
  f321 := Tryd.func176.trans (congrArg some (by kernel_rfl))
  f322 := Tryd.func177.trans (congrArg some (by kernel_rfl))
  f337 := Tryd.func184.trans (congrArg some (by kernel_rfl))
  f338 := Tryd.func185.trans (congrArg some (by kernel_rfl))
  t0 := Tryd.underlying0
  a0 := Tryd.isAgg0
  z0 := Tryd.sizeOf0
  v0 := Tryd.zeroValue0
  t2 := Tryd.underlying2
  a2 := Tryd.isAgg2
  z2 := Tryd.sizeOf2
  v2 := Tryd.zeroValue2
  t3 := Tryd.underlying3
  a3 := Tryd.isAgg3
  z3 := Tryd.sizeOf3
  v3 := Tryd.zeroValue3
  t4 := Tryd.underlying4
  a4 := Tryd.isAgg4
  z4 := Tryd.sizeOf4
  v4 := Tryd.zeroValue4
  t5 := Tryd.underlying5
  a5 := Tryd.isAgg5
  z5 := Tryd.sizeOf5
  v5 := Tryd.zeroValue5
  t9 := Tryd.underlying9
  a9 := Tryd.isAgg9
  z9 := Tryd.sizeOf9
  v9 := Tryd.zeroValue9
  t20 := Tryd.underlying20
  a20 := Tryd.isAgg20
  z20 := Tryd.sizeOf20
  v20 := Tryd.zeroValue20
  t21 := Tryd.underlying21
  a21 := Tryd.isAgg21
  z21 := Tryd.sizeOf21
  v21 := Tryd.zeroValue21
  t37 := Tryd.underlying129
  a37 := Tryd.isAgg129
  z37 := Tryd.sizeOf129
  v37 := Tryd.zeroValue129
  t46 := Tryd.underlying127
  a46 := Tryd.isAgg127
  z46 := Tryd.sizeOf127
  v46 := Tryd.zeroValue127
  t51 := Tryd.underlying154
  a51 := Tryd.isAgg154
  z51 := Tryd.sizeOf154
  v51 := Tryd.zeroValue154
  t53 := Tryd.underlying110
  a53 := Tryd.isAgg110
  z53 := Tryd.sizeOf110
  v53 := Tryd.zeroValue110
  t75 := Tryd.underlying91
  a75 := Tryd.isAgg91
  z75 := Tryd.sizeOf91
  v75 := Tryd.zeroValue91
  t76 := Tryd.underlying92
  a76 := Tryd.isAgg92
  z76 := Tryd.sizeOf92
  v76 := Tryd.zeroValue92
  t85 := Tryd.underlying130
  a85 := Tryd.isAgg130
  z85 := Tryd.sizeOf130
  v85 := Tryd.zeroValue130
  t127 := Tryd.underlying170
  a127 := Tryd.isAgg170
  z127 := Tryd.sizeOf170
  v127 := Tryd.zeroValue170
  t143 := Tryd.underlying173
  a143 := Tryd.isAgg173
  z143 := Tryd.sizeOf173
  v143 := Tryd.zeroValue173
  t145 := Tryd.underlying175
  a145 := Tryd.isAgg175
  z145 := Tryd.sizeOf175
  v145 := Tryd.zeroValue175
  t167 := Tryd.underlying128
  a167 := Tryd.isAgg128
  z167 := Tryd.sizeOf128
  v167 := Tryd.zeroValue128
  t168 := Tryd.underlying132
  a168 := Tryd.isAgg132
  z168 := Tryd.sizeOf132
  v168 := Tryd.zeroValue132
  t171 := Tryd.underlying163
  a171 := Tryd.isAgg163
  z171 := Tryd.sizeOf163
  v171 := Tryd.zeroValue163
  t173 := Tryd.underlying166
  a173 := Tryd.isAgg166
  z173 := Tryd.sizeOf166
  v173 := Tryd.zeroValue166
  t175 := Tryd.underlying157
  a175 := Tryd.isAgg157
  z175 := Tryd.sizeOf157
  v175 := Tryd.zeroValue157
  t210 := Tryd.underlying161
  a210 := Tryd.isAgg161
  z210 := Tryd.sizeOf161
  v210 := Tryd.zeroValue161
  t212 := Tryd.underlying177
  a212 := Tryd.isAgg177
  z212 := Tryd.sizeOf177
  v212 := Tryd.zeroValue177
  t213 := Tryd.underlying178
  a213 := Tryd.isAgg178
  z213 := Tryd.sizeOf178
  t232 := Tryd.underlying183
  a232 := Tryd.isAgg183
  z232 := Tryd.sizeOf183
  v232 := Tryd.zeroValue183
  t233 := Tryd.underlying184
  a233 := Tryd.isAgg184
  z233 := Tryd.sizeOf184
  v233 := Tryd.zeroValue184
  g15 := by kernel_rfl
  g16 := by kernel_rfl
  g17 := by kernel_rfl
  g18 := by kernel_rfl
  g19 := by kernel_rfl
  t80 := Tryd.underlying107
  a80 := Tryd.isAgg107
  z80 := Tryd.sizeOf107
  v80 := Tryd.zeroValue107
  i0 := by kernel_rfl
  i2 := by kernel_rfl
  i3 := by kernel_rfl
  i4 := by kernel_rfl
  i5 := by kernel_rfl
  i9 := by kernel_rfl
  i20 := by kernel_rfl
  i21 := by kernel_rfl
  i37 := by kernel_rfl
  i46 := by kernel_rfl
  i51 := by kernel_rfl
  i53 := by kernel_rfl
  i75 := by kernel_rfl
  i76 := by kernel_rfl
  i80 := by kernel_rfl
  i85 := by kernel_rfl
  i127 := by kernel_rfl
  i143 := by kernel_rfl
  i145 := by kernel_rfl
  i167 := by kernel_rfl
  i168 := by kernel_rfl
  i171 := by kernel_rfl
  i173 := by kernel_rfl
  i175 := by kernel_rfl
  i210 := by kernel_rfl
  i212 := by kernel_rfl
  i232 := by kernel_rfl
  i233 := by kernel_rfl
  m15 := by kernel_rfl
  m16 := by kernel_rfl
  m17 := by kernel_rfl
  m18 := by kernel_rfl
  m19 := by kernel_rfl
  c0 := by kernel_rfl
  c2 := by kernel_rfl
  c3 := by kernel_rfl
  c4 := by kernel_rfl
  c5 := by kernel_rfl
  c9 := by kernel_rfl
  c20 := by kernel_rfl
  c21 := by kernel_rfl
  c37 := by kernel_rfl
  c46 := by kernel_rfl
  c51 := by kernel_rfl
  c53 := by kernel_rfl
  c75 := by kernel_rfl
  c76 := by kernel_rfl
  c80 := by kernel_rfl
  c85 := by kernel_rfl
  c127 := by kernel_rfl
  c143 := by kernel_rfl
  c145 := by kernel_rfl
  c167 := by kernel_rfl
  c168 := by kernel_rfl
  c171 := by kernel_rfl
  c173 := by kernel_rfl
  c175 := by kernel_rfl
  c210 := by kernel_rfl
  c212 := by kernel_rfl
  c213 := by kernel_rfl
  c232 := by kernel_rfl
  c233 := by kernel_rfl }
def Tryd.lays145_ren : Go.Shelf.Ren := ⟨fun | 145 => 39 | 220 => 59 | 219 => 78 | 217 => 134 | 225 => 135 | 224 => 136 | 267 => 137 | 266 => 161 | 314 => 162 | n => n, fun | 9 => 9 | 4 => 4 | 59 => 65 | 3 => 3 | 5 => 5 | 46 => 127 | 146 => 155 | 51 => 154 | n => n, fun | 1 => 0 | n => n⟩
theorem Tryd.lays145 : Go.Proofs.Lays.n145 Tryd.prog Tryd.lays145_ren := {
  mixed := by kernel_rfl
  f145 := Tryd.func39.trans (congrArg some (by kernel_rfl))
  f217 := Tryd.func134.trans (congrArg some (by kernel_rfl))
  f219 := Tryd.func78.trans (congrArg some (by kernel_rfl))
  f220 := Tryd.func59.trans (congrArg some (by kernel_rfl))
  f224 := Tryd.func136.trans (congrArg some (by kernel_rfl))
  f225 := Tryd.func135.trans (congrArg some (by kernel_rfl))
  f266 := Tryd.func161.trans (congrArg some (by kernel_rfl))
  f267 := Tryd.func137.trans (congrArg some (by kernel_rfl))
  f314 := Tryd.func162.trans (congrArg some (by kernel_rfl))
  t3 := Tryd.underlying3
  a3 := Tryd.isAgg3
  z3 := Tryd.sizeOf3
  v3 := Tryd.zeroValue3
  t4 := Tryd.underlying4
  a4 := Tryd.isAgg4
  z4 := Tryd.sizeOf4
  v4 := Tryd.zeroValue4
  t5 := Tryd.underlying5
  a5 := Tryd.isAgg5
  z5 := Tryd.sizeOf5
  v5 := Tryd.zeroValue5
  t9 := Tryd.underlying9
  a9 := Tryd.isAgg9
  z9 := Tryd.sizeOf9
  v9 := Tryd.zeroValue9
  t46 := Tryd.underlying127
  a46 := Tryd.isAgg127
  z46 := Tryd.sizeOf127
  v46 := Tryd.zeroValue127
  t51 := Tryd.underlying154
  a51 := Tryd.isAgg154
  z51 := Tryd.sizeOf154
  v51 := Tryd.zeroValue154
  t59 := Tryd.underlying65
  a59 := Tryd.isAgg65
  z59 := Tryd.sizeOf65
  v59 := Tryd.zeroValue65
  t146 := Tryd.underlying155
  a146 := Tryd.isAgg155
  z146 := Tryd.sizeOf155
  v146 := Tryd.zeroValue155
  g1 := by kernel_rfl }
open Go.RowKit Go.Sort Go.Lib in
/-- strconv.Itoa: "Itoa is equivalent to FormatInt(int64(i), 10).": i's DECIMAL NUMERAL ('Lib.itoa': a '-' where i is negative, then the digits), FOR EVERY int. The world behind the call: the world before it, new blocks behind the heap (the library's 'var a [24]byte'), draws. (LAID: no walk: one application.) -/
theorem Tryd.strconv_Itoa (n : Int) (h0 : -9223372036854775808 ≤ n) (h1 : n ≤ 9223372036854775807) (w : World) (htab : Lib.TabIs Tryd.prog w "internal/strconv.uint64pow10" .u64 Lib.pow10Tab) :
    Calls Tryd.prog 62 #[.int .i64 n] w fun e w' => e = .returned (.string ⟨(Lib.itoa n).toArray⟩) ∧ ∃ k os, w' = grow (w.drewN k) os := Any.strconv_Itoa Tryd.laysM171 n h0 h1 w htab
open Go.RowKit in
/-- strconv.Atoi, AT EVERY STRING THAT SPELLS AN int ('Lib.atoiAll .. = .ok v'; of whatever length: leading zeros count): v, AND NO ERROR. The world: as it was, or with the one new row that '[]byte(..)' lays. (LAID: no walk: one application.) -/
theorem Tryd.strconv_Atoi_ok (s : ByteArray) (hmax : s.size ≤ 9223372036854775806) (v : Int) (h : Lib.atoiAll s.data.toList = .ok v) (w : World) :
    Calls Tryd.prog 60 #[.string s] w fun e w' => e = .returned (.tuple #[.int .i64 v, .nilIface]) ∧ (w' = w ∨ ∃ t, w' = Lib.bytesWorld w 5 t) := Any.strconv_Atoi_ok Tryd.laysC172 s hmax v h w
open Go.RowKit in
theorem Tryd.strconv_Atoi_syntax_var (s : ByteArray) (hlim : s.size ≤ 281474976710656) (h : Lib.atoiAll s.data.toList = Lib.atoiAll []) (tp : TypeId) (p : Value) (w : World) (hvar : w.var? Tryd.prog "strconv.ErrSyntax" = some #[.iface tp p]) :
    Calls Tryd.prog 60 #[.string s] w fun e w' => ∃ N, e = .returned (.tuple #[.int .i64 0, .iface 132 (.pointer (some ⟨N, 0, none⟩))]) ∧ w.heap.size ≤ N ∧ w'.heap[N]? = some (.cells #[.string ⟨#[65, 116, 111, 105]⟩, .string s, .iface tp p] 161 (0, 0)) ∧ Below w.heap.size w w' := Any.strconv_Atoi_syntax_var Tryd.laysC172 s hlim h tp p w hvar
open Go.RowKit in
theorem Tryd.strconv_Atoi_range_var (s : ByteArray) (hlim : s.size ≤ 281474976710656) (h : Lib.atoiAll s.data.toList = .range) (tp : TypeId) (p : Value) (w : World) (hvar : w.var? Tryd.prog "strconv.ErrRange" = some #[.iface tp p]) :
    Calls Tryd.prog 60 #[.string s] w fun e w' => ∃ N, e = .returned (.tuple #[.int .i64 (Lib.atoiSat s.data.toList), .iface 132 (.pointer (some ⟨N, 0, none⟩))]) ∧ w.heap.size ≤ N ∧ w'.heap[N]? = some (.cells #[.string ⟨#[65, 116, 111, 105]⟩, .string s, .iface tp p] 161 (0, 0)) ∧ Below w.heap.size w w' := Any.strconv_Atoi_range_var Tryd.laysC172 s hlim h tp p w hvar
open Go.RowKit Go.Lib in
/-- strings.Cut: "Cut slices s around the first instance of sep, returning the text before and after sep. The found result reports whether sep appears in s. If sep does not appear in s, cut returns s, "", false.": IT RETURNS 'Lib.cut s sep'; the world is as it was but for the count of draws. (LAID: no walk: one application.) -/
theorem Tryd.strings_Cut (s sep : ByteArray) (m : Int) (w : World) (hs : s.size < 4294967281) (hm : w.cell? ⟨0, 0, none⟩ = some (.int .i64 m)) :
    Calls Tryd.prog 39 #[.string s, .string sep] w fun e w' => e = .returned (.tuple #[.string ⟨(Lib.cut s.data.toList sep.data.toList).1.toArray⟩, .string ⟨(Lib.cut s.data.toList sep.data.toList).2.1.toArray⟩, .bool (Lib.cut s.data.toList sep.data.toList).2.2]) ∧ ∃ n, w' = w.drewN n := Any.strings_Cut Tryd.lays145 s sep m w hs hm
end Go.Proofs
/- The library's contracts at this program, printed by the shelf's own tool in plain words. -/
namespace Go.Proofs
open Go.Shelf
def Tryd.lays217_ren : Go.Shelf.Ren := ⟨fun | 217 => 134 | 266 => 161 | n => n, fun | 9 => 9 | 5 => 5 | 3 => 3 | n => n, fun | n => n⟩
theorem Tryd.lays217 : Go.Proofs.Lays.n217 Tryd.prog Tryd.lays217_ren := {
  mixed := by kernel_rfl
  f217 := Tryd.func134.trans (congrArg some (by kernel_rfl))
  f266 := Tryd.func161.trans (congrArg some (by kernel_rfl))
  t3 := Tryd.underlying3
  a3 := Tryd.isAgg3
  z3 := Tryd.sizeOf3
  v3 := Tryd.zeroValue3
  t5 := Tryd.underlying5
  a5 := Tryd.isAgg5
  z5 := Tryd.sizeOf5
  v5 := Tryd.zeroValue5
  t9 := Tryd.underlying9
  a9 := Tryd.isAgg9
  z9 := Tryd.sizeOf9
  v9 := Tryd.zeroValue9 }
open Go.RowKit Go.Lib in
/-- internal/stringslite.IndexByte (what strings.IndexByte calls): IT RETURNS 'Lib.indexByte s c'; the world is as it was. (LAID: no walk: one application.) -/
theorem Tryd.stringslite_IndexByte (s : ByteArray) (c : Int) (w : World) :
    Calls Tryd.prog 134 #[.string s, .int .u8 c] w fun e w' => e = .returned (.int .i64 (Lib.indexByte s.data.toList c.toNat.toUInt8)) ∧ w' = w := Any.stringslite_IndexByte Tryd.lays217 s c w
end Go.Proofs
/- Closed runs: what the evaluator answers over the empty heap, it answers; finitely many inputs are gone through by the kernel. -/
set_option linter.unusedVariables false
set_option linter.unusedSimpArgs false
namespace Go.Proofs.YtmdpggecelheoaaDoor.Abs
open Go
theorem df_closed {P : Program} {X : Outer} {n : Nat} {f : FuncId} {args : List Value} {v : Value} (h : ansIs (run P X n f args ⟨0, .tip⟩) v = true) : Df P X f args ⟨0, .tip⟩ fun r _ => r = v := by
  obtain ⟨H, h⟩ := ansIs_some h
  exact ⟨n, _, h, rfl⟩
/-- The place of a byte in a text, or -1. -/
def ixB : List UInt8 → UInt8 → Int → Int
  | [], _, _ => -1
  | b :: l, c, i => if b == c then i else ixB l c (i + 1)
theorem ix_ge (l : List UInt8) (c : UInt8) : -1 ≤ Lib.indexByte l c := by
  induction l with
  | nil => simp [Lib.indexByte]
  | cons b l ih =>
    simp only [Lib.indexByte]
    split
    · omega
    · split <;> omega
theorem ixB_eq (l : List UInt8) (c : UInt8) : ∀ i : Int, 0 ≤ i → (Lib.indexByte l c = -1 → ixB l c i = -1) ∧ (Lib.indexByte l c ≠ -1 → ixB l c i = Lib.indexByte l c + i) := by
  induction l with
  | nil => intro i hi; exact ⟨fun _ => rfl, fun h => absurd rfl h⟩
  | cons b l ih =>
    intro i hi
    have hg := ix_ge l c
    have hc : Lib.indexByte (b :: l) c = if b == c then 0 else if Lib.indexByte l c == -1 then -1 else Lib.indexByte l c + 1 := rfl
    have hx : ixB (b :: l) c i = if b == c then i else ixB l c (i + 1) := rfl
    rw [hc, hx]
    obtain ⟨h1, h2⟩ := ih (i + 1) (by omega)
    by_cases hb : (b == c) = true
    · simp only [if_pos hb]
      exact ⟨fun h => by omega, fun _ => by omega⟩
    · simp only [if_neg hb]
      by_cases hx : Lib.indexByte l c = -1
      · have e : (Lib.indexByte l c == -1) = true := by simpa using hx
        simp only [if_pos e]
        exact ⟨fun _ => h1 hx, fun h => absurd rfl h⟩
      · have e : ¬ (Lib.indexByte l c == -1) = true := by simpa using hx
        simp only [if_neg e]
        exact ⟨fun h => by omega, fun _ => by rw [h2 hx]; omega⟩
/-- strings.IndexByte's answer. -/
def ixG : List Value → Hp → Option (Value × Hp) := fun args H => match args with
  | [.string s, .int .u8 c] => some (.int .i64 (ixB s.data.toList c.toNat.toUInt8 0), H)
  | _ => none
theorem ix_sound {P : Program} {B : Nat} {w0 : World} {k : FuncId} (hc : ∀ (s : ByteArray) (c : Int) (w : World), Calls P k #[.string s, .int .u8 c] w fun e w' => e = .returned (.int .i64 (Lib.indexByte s.data.toList c.toNat.toUInt8)) ∧ w' = w) : KSound P B w0 fun f' args H => if f' = k then ixG args H else none := by
  intro b hb f' args H v H' hr φ w args' hR ha
  simp only at hr
  split at hr
  · rename_i hff
    subst hff
    unfold ixG at hr
    split at hr
    · rename_i s c
      cases hr
      have e : args' = [.string s, .int .u8 c] := flats_eq rfl ha
      subst e
      refine (hc s c w).mono ?_
      rintro e w' ⟨rfl, rfl⟩
      refine ⟨φ, _, Plan.le_refl φ, rfl, ?_, hR⟩
      obtain ⟨h1, h2⟩ := ixB_eq s.data.toList c.toNat.toUInt8 0 (by omega)
      by_cases hx : Lib.indexByte s.data.toList c.toNat.toUInt8 = -1
      · rw [h1 hx, hx]; exact .int _ _
      · rw [h2 hx, Int.add_zero]; exact .int _ _
    · cases hr
  · cases hr
/-- A call that is known to answer true. -/
def trueG : List Value → Hp → Option (Value × Hp) := fun args H => match args with
  | [] => some (.bool true, H)
  | _ => none
theorem true_sound {P : Program} (hm : P.follows .mixedOrders = true) {X' : Outer} (h : ∀ B w0, XSound P B w0 X') {n : Nat} {k : FuncId} (hr : ansIs (run P X' n k [] ⟨0, .tip⟩) (.bool true) = true) (B : Nat) (w0 : World) : KSound P B w0 fun f' args H => if f' = k then trueG args H else none := by
  intro b hb f' args H v H' hrun φ w args' hR ha
  simp only at hrun
  split at hrun
  · rename_i hff
    subst hff
    unfold trueG at hrun
    split at hrun
    · cases hrun
      obtain ⟨H1, hr⟩ := ansIs_some hr
      exact xsound_pure hm h n [f'] B w0 f' (pureX P X' n f') (by simp [withPure]) b hb f' [] H (.bool true) H (by simp [pureX, hr, flatT, flat]) φ w args' hR ha
    · cases hrun
  · cases hrun
end Go.Proofs.YtmdpggecelheoaaDoor.Abs
/- The library's answers that are supplied from outside: strconv.Itoa and strconv.Atoi, in a form that the kernel reckons. -/
set_option linter.unusedVariables false
set_option linter.unusedSimpArgs false
namespace Go.Proofs.YtmdpggecelheoaaDoor.Abs
open Go Go.RowKit Go.Sort
def decF : Nat → Nat → List UInt8
  | 0, _ => []
  | k + 1, u => if u < 10 then [UInt8.ofNat (48 + u)] else decF k (u / 10) ++ [UInt8.ofNat (48 + u % 10)]
theorem decF_eq : ∀ (k u : Nat), u < 10 ^ k → 0 < k → decF k u = Lib.decDigits u
  | 0, u, _, h => absurd h (by omega)
  | k + 1, u, h, _ => by
    rw [Lib.decDigits]
    simp only [decF]
    by_cases hu : u < 10
    · rw [if_pos hu, dif_pos hu]
    · rw [if_neg hu, dif_neg hu]
      have hk : 0 < k := by
        refine Nat.pos_of_ne_zero fun h0 => ?_
        subst h0
        simp at h
        omega
      rw [decF_eq k (u / 10) (by rw [Nat.pow_succ] at h; omega) hk]
def itoaK (n : Int) : List UInt8 := if n < 0 then 45 :: decF 20 n.natAbs else decF 20 n.toNat
theorem itoaK_eq {n : Int} (h : -9223372036854775808 ≤ n ∧ n ≤ 9223372036854775807) : itoaK n = Lib.itoa n := by
  unfold itoaK Lib.itoa
  split
  · rw [decF_eq 20 _ (Nat.lt_of_lt_of_le (show n.natAbs < 10000000000000000000 by omega) (by decide)) (by decide)]
  · rw [decF_eq 20 _ (Nat.lt_of_lt_of_le (show n.toNat < 10000000000000000000 by omega) (by decide)) (by decide)]
def itoaKG : List Value → Hp → Option (Value × Hp) := fun args H => match args with
  | [.int .i64 n] => if -9223372036854775808 ≤ n ∧ n ≤ 9223372036854775807 then some (.string ⟨(itoaK n).toArray⟩, H) else none
  | _ => none
def atoiG (T : TypeId) : List Value → Hp → Option (Value × Hp) := fun args H => match args with
  | [.string s] => if s.data.size ≤ 1000000 then (match Lib.atoiAll s.data.toList with
      | .ok v => some (.tuple #[.int .i64 v, .nilIface], H)
      | .range => some (.tuple #[.int .i64 (Lib.atoiSat s.data.toList), .iface T undef], H)
      | _ => some (.tuple #[.int .i64 0, .iface T undef], H)) else none
  | _ => none
theorem var_below {P : Program} {w0 w : World} {name : String} {a : Array Value} (h : w0.var? P name = some a) (b : Below w0.heap.size w0 w) : w.var? P name = some a := by
  unfold World.var? at *
  cases hg : P.globalNamed name with
  | none => rw [hg] at h; simp at h
  | some g =>
    rw [hg] at h
    simp only [Option.bind_some] at h ⊢
    have hlt : g < w0.heap.size := by
      refine Decidable.byContradiction fun hn => ?_
      rw [Array.getElem?_eq_none (by omega)] at h
      simp at h
    rw [b.block g hlt]
    exact h
theorem itoaK_sound {P : Program} {B : Nat} {w0 : World} {k : FuncId} (hc : ∀ (n : Int), -9223372036854775808 ≤ n → n ≤ 9223372036854775807 → ∀ w, Below B w0 w → Calls P k #[.int .i64 n] w fun e w' => e = .returned (.string ⟨(Lib.itoa n).toArray⟩) ∧ ∃ k os, w' = grow (w.drewN k) os) : KSound P B w0 fun f' args H => if f' = k then itoaKG args H else none := by
  intro b hb f' args H v H' hr φ w args' hR ha
  simp only at hr
  split at hr
  · rename_i hff
    subst hff
    unfold itoaKG at hr
    split at hr
    · rename_i n
      split at hr
      · rename_i hn
        cases hr
        have e : args' = [.int .i64 n] := flats_eq rfl ha
        subst e
        refine (hc n hn.1 hn.2 w (hb ▸ hR.below)).mono ?_
        rintro e w' ⟨rfl, k, os, rfl⟩
        rw [itoaK_eq hn]
        exact ⟨φ, _, Plan.le_refl φ, rfl, .string _, hR.grow (Lib.below_grow _ _ (Nat.le_refl _) _ _)⟩
      · cases hr
    · cases hr
  · cases hr
theorem tup2 {φ : Plan} {a b b' : Value} (ha : flat 8 a = true) (hb : VR φ b b') : VR φ (.tuple #[a, b]) (.tuple #[a, b']) := by
  refine .tuple _ _ rfl fun i => ?_
  match i with
  | 0 => exact flat_refl 8 _ ha
  | 1 => exact hb
  | i + 2 => simp [Array.getD]; exact .undef _ _
theorem atoi_sound {P : Program} {B : Nat} {w0 : World} {k : FuncId} {T u : TypeId}
    (h1 : ∀ (s : ByteArray), s.size ≤ 1000000 → ∀ v, Lib.atoiAll s.data.toList = .ok v → ∀ w, Calls P k #[.string s] w fun e w' => e = .returned (.tuple #[.int .i64 v, .nilIface]) ∧ (w' = w ∨ ∃ t, w' = Lib.bytesWorld w u t))
    (h2 : ∀ (s : ByteArray), s.size ≤ 1000000 → Lib.atoiAll s.data.toList = Lib.atoiAll [] → ∀ w, Below B w0 w → Calls P k #[.string s] w fun e w' => ∃ N : Nat, e = .returned (.tuple #[.int .i64 0, .iface T (.pointer (some ⟨N, 0, none⟩))]) ∧ Below w.heap.size w w')
    (h3 : ∀ (s : ByteArray), s.size ≤ 1000000 → Lib.atoiAll s.data.toList = .range → ∀ w, Below B w0 w → Calls P k #[.string s] w fun e w' => ∃ N : Nat, e = .returned (.tuple #[.int .i64 (Lib.atoiSat s.data.toList), .iface T (.pointer (some ⟨N, 0, none⟩))]) ∧ Below w.heap.size w w') :
    KSound P B w0 fun f' args H => if f' = k then atoiG T args H else none := by
  intro b hb f' args H v H' hr φ w args' hR ha
  simp only at hr
  split at hr
  · rename_i hff
    subst hff
    unfold atoiG at hr
    split at hr
    · rename_i s
      split at hr
      · rename_i hsz
        have e : args' = [.string s] := flats_eq rfl ha
        subst e
        split at hr
        · rename_i n hn
          cases hr
          refine (h1 s hsz n hn w).mono ?_
          rintro e w' ⟨rfl, hw⟩
          refine ⟨φ, _, Plan.le_refl φ, rfl, tup2 rfl .nilIface, ?_⟩
          rcases hw with rfl | ⟨t, rfl⟩
          · exact hR
          · exact hR.grow (Lib.bytesWorld_below _ _ _)
        · rename_i hn
          cases hr
          refine (h3 s hsz hn w (hb ▸ hR.below)).mono ?_
          rintro e w' ⟨N, rfl, hb⟩
          exact ⟨φ, _, Plan.le_refl φ, rfl, tup2 rfl (.iface _ _ _ (.undef _ _)), hR.grow hb⟩
        · rename_i hn1 hn2
          have hn : Lib.atoiAll s.data.toList = Lib.atoiAll [] := by
            cases hh : Lib.atoiAll s.data.toList with
            | ok v => exact (hn1 v hh).elim
            | range => exact (hn2 hh).elim
            | _ => rfl
          cases hr
          refine (h2 s hsz hn w (hb ▸ hR.below)).mono ?_
          rintro e w' ⟨N, rfl, hb⟩
          exact ⟨φ, _, Plan.le_refl φ, rfl, tup2 rfl (.iface _ _ _ (.undef _ _)), hR.grow hb⟩
      · cases hr
    · cases hr
  · cases hr
end Go.Proofs.YtmdpggecelheoaaDoor.Abs
/- What Parse is given from outside: the library's answers, and that they are sound. -/
set_option linter.unusedVariables false
set_option linter.unusedSimpArgs false
namespace Go.Proofs.YtmdpggecelheoaaDoor.Abs
open Go Go.RowKit Go.Sort
theorem pow10_p {W : World} {rest : List (String × DataW Unit)} (h : laidMet Tryd.prog (("internal/strconv.uint64pow10", Rows.laid_internal_strconv_uint64pow10) :: rest) W) : Lib.TabIs Tryd.prog W "internal/strconv.uint64pow10" .u64 Lib.pow10Tab :=
  Lib.tabIs_of_head (g := 3) (t := 177) (e := 110) (n := 20) (by kernel_rfl) (by kernel_rfl) Tryd.underlying177 Tryd.underlying110 (by kernel_rfl) (by kernel_rfl) h
theorem star_ep : "*" ++ "errors.errorString" = "*errors.errorString" := by decide
theorem row_ep (u : TypeId) (h : Tryd.prog.typeName? 3 u = some "*errors.errorString") : u = 173 :=
  typeName_ptr_named (nm := "errors.errorString") (by rw [star_ep]; kernel_rfl) (by kernel_rfl) (by decide) u (by rw [star_ep]; exact h)
theorem syn_p {W : World} {rest : List (String × DataW Unit)} (h : laidMet Tryd.prog (("strconv.ErrSyntax", Rows.laid_strconv_ErrSyntax) :: rest) W) : ∃ a, W.var? Tryd.prog "strconv.ErrSyntax" = some #[.iface 173 (.pointer (some a))] := by
  obtain ⟨a, s, h1, -⟩ := laid_sentinel (g := 1) (ti := 91) (tp := 173) (te := 175) (ts := 9) h (by kernel_rfl) (by kernel_rfl) Tryd.underlying91 row_ep Tryd.underlying173 Tryd.underlying175 rfl rfl Tryd.underlying9 (by kernel_rfl) (by kernel_rfl)
  exact ⟨a, h1⟩
theorem ran_p {W : World} {rest : List (String × DataW Unit)} (h : laidMet Tryd.prog (("strconv.ErrRange", Rows.laid_strconv_ErrRange) :: rest) W) : ∃ a, W.var? Tryd.prog "strconv.ErrRange" = some #[.iface 173 (.pointer (some a))] := by
  obtain ⟨a, s, h1, -⟩ := laid_sentinel (g := 2) (ti := 91) (tp := 173) (te := 175) (ts := 9) h (by kernel_rfl) (by kernel_rfl) Tryd.underlying91 row_ep Tryd.underlying173 Tryd.underlying175 rfl rfl Tryd.underlying9 (by kernel_rfl) (by kernel_rfl)
  exact ⟨a, h1⟩
/-- The library's variables that the start lays. -/
structure LibP (W : World) : Prop where
  tab : Lib.TabIs Tryd.prog W "internal/strconv.uint64pow10" .u64 Lib.pow10Tab
  syn : ∃ a, W.var? Tryd.prog "strconv.ErrSyntax" = some #[.iface 173 (.pointer (some a))]
  ran : ∃ a, W.var? Tryd.prog "strconv.ErrRange" = some #[.iface 173 (.pointer (some a))]
theorem LibP.below {W w : World} (h : LibP W) (b : Below W.heap.size W w) : LibP w :=
  ⟨var_below h.tab b, h.syn.imp fun a ha => var_below ha b, h.ran.imp fun a ha => var_below ha b⟩
/-- Itoa, Atoi, IndexByte, copyCheck. -/
noncomputable def YP : Outer := fun f => if f = 134 then some ixG else if f = 62 then some itoaKG else if f = 60 then some (atoiG 132) else if f = 172 then some cpG else none
theorem yp_sound {W : World} (h : LibP W) : XSound Tryd.prog W.heap.size W YP := by
  intro f g hg
  unfold YP at hg
  split at hg
  · rename_i hf
    subst hf
    cases hg
    exact ix_sound Tryd.stringslite_IndexByte
  split at hg
  · rename_i hf
    subst hf
    cases hg
    exact itoaK_sound fun n h0 h1 w b => Tryd.strconv_Itoa n h0 h1 w (var_below h.tab b)
  split at hg
  · rename_i hf
    subst hf
    cases hg
    obtain ⟨a, ha⟩ := h.syn
    obtain ⟨c, hc⟩ := h.ran
    refine atoi_sound (fun s hs v hv w => Tryd.strconv_Atoi_ok s (by omega) v hv w) (fun s hs hv w b => (Tryd.strconv_Atoi_syntax_var s (by omega) hv _ _ w (var_below ha b)).mono ?_) (fun s hs hv w b => (Tryd.strconv_Atoi_range_var s (by omega) hv _ _ w (var_below hc b)).mono ?_)
    · rintro e w' ⟨N, rfl, -, -, hb⟩
      exact ⟨N, rfl, hb⟩
    · rintro e w' ⟨N, rfl, -, -, hb⟩
      exact ⟨N, rfl, hb⟩
  split at hg
  · rename_i hf
    subst hf
    cases hg
    exact cp_sound
  · cases hg
theorem f_ans {X : Outer} {n : Nat} {f : FuncId} {args : List Value} {H : Hp} {v : Value} (h : ansIs (crun Tryd.prog X n f args H) v = true) : ansIs (run Tryd.prog X n f args H) v = true := by
  obtain ⟨H', h1⟩ := ansIs_some h
  rw [crun_eq] at h1
  rw [qrun_of n f args H _ h1]
  exact vbeq_self v
end Go.Proofs.YtmdpggecelheoaaDoor.Abs
