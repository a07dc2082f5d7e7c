/- strings.Builder.copyCheck, walked at the machine: a fresh builder writes its own address down; a used one looks at it. -/
import Derived.Shelf.Strings.Builder1
import Derived.Test.YtmdpggecelheoaaDoorProg
import Derived.Test.YtmdpggecelheoaaDoorPTF
import Derived.Test.YtmdpggecelheoaaDoorPA20
import Derived.Test.YtmdpggecelheoaaDoorPA27
import Derived.Test.YtmdpggecelheoaaDoorMZ1
import Derived.Lib.AppendIntMem
import Derived.Shelf.LaysM
import Derived.Shelf.Strconv.Itoa3
import Derived.Shelf.LaysC
import Derived.Shelf.Strconv.AtoiAll
import Derived.Shelf.Strconv.ErrVarAll
import Derived.Shelf.Strings.Search1
import Derived.Shelf.Strings.Search2
import Derived.Shelf.Strings.Search3
import Derived.Shelf.Strings.Cut
import Derived.Test.YtmdpggecelheoaaDoorRows
import Derived.Lib.LaidTab
import Derived.Stop.LaidErr
import Derived.Test.YtmdpggecelheoaaDoorMZ2
import Derived.Test.YtmdpggecelheoaaDoorMW9
import Derived.Lib.ItoaLen
set_option linter.unusedVariables false
namespace Go.Proofs.YtmdpggecelheoaaDoor.Abs
open Go Go.RowKit Go.Proofs
theorem bld_size : (Tryd.prog.info? 145).map (·.size) = some 2 := by kernel_rfl
theorem bld_lies : liesAt Tryd.prog Tryd.prog.depth 145 (2 / Tryd.prog.cellsOf 145) 0 145 1 = true := by kernel_rfl
set_option maxHeartbeats 1000000
set_option maxRecDepth 100000
theorem check_used (b : Nat) (w : World) (h0 : w.cell? ⟨b, 0, none⟩ = some (.pointer (some ⟨b, 0, none⟩))) :
    Calls Tryd.prog 172 #[.pointer (some ⟨b, 0, none⟩)] w fun e w' => e = .returned (.tuple #[]) ∧ w' = w := by
  obtain ⟨j, hj, _⟩ := Option.map_eq_some_iff.1 bld_size
  go_enter Tryd.func172, Tryd.ntmps172
  go_wp2
  rw [Lib.run_neq_ptr_same w _ Tryd.underlying143 hj]
  go_wp2
  go_end0
  exact ⟨rfl, rfl⟩
theorem check_fresh (b : Nat) (w : World) (h0 : w.cell? ⟨b, 0, none⟩ = some (.pointer none)) (hsh : w.shape? b = some (145, 2)) (hfz : w.frozen? ⟨b, 0, none⟩ = false) :
    Calls Tryd.prog 172 #[.pointer (some ⟨b, 0, none⟩)] w fun e w' => e = .returned (.tuple #[]) ∧ w' = w.setCell ⟨b, 0, none⟩ (.pointer (some ⟨b, 0, none⟩)) := by
  obtain ⟨j, hj, hjs⟩ := Option.map_eq_some_iff.1 bld_size
  go_enter Tryd.func172, Tryd.ntmps172
  go_wp2
  rw [Lib.run_to_unsafe w ⟨b, 0, none⟩ Tryd.underlying143 Tryd.underlying180 hj (by rw [hjs]; decide) hsh (Nat.zero_lt_succ 1)]
  simp only [Result.andThen]
  rw [Oper.upon_value]
  go_wp2
  rw [run_callFunc_extern Tryd.func183 (by kernel_rfl) (by kernel_rfl) (by kernel_rfl) (e := Extern.AbiNoEscape.same) (by kernel_rfl), Lib.run_noEscape]
  simp only [Result.andThen]
  rw [Oper.upon_value]
  go_wp2
  rw [Lib.run_from_unsafe w ⟨b, 0, none⟩ Tryd.underlying180 Tryd.underlying143 hj hsh bld_lies]
  simp only [Result.andThen]
  rw [Oper.upon_value]
  go_wp2
  go_end0
  exact ⟨rfl, rfl⟩
end Go.Proofs.YtmdpggecelheoaaDoor.Abs
/- strings.Builder over the plain heap: what is given of copyCheck, and the walks of WriteByte and String. -/
set_option linter.unusedVariables false
set_option linter.unusedSimpArgs false
set_option maxRecDepth 4000
namespace Go.Proofs.YtmdpggecelheoaaDoor.Abs
open Go Go.RowKit
theorem exact_cb : ∀ l : List UInt8, exactBytes (l.map cb) = some l
  | [] => rfl
  | b :: l => by
    have ih := exact_cb l
    show (if (b.toNat : Int) = ((UInt8.ofNat (b.toNat : Int).toNat).toNat : Int) then (exactBytes (l.map cb)).map (UInt8.ofNat (b.toNat : Int).toNat :: ·) else none) = some (b :: l)
    rw [Int.toNat_natCast, UInt8.ofNat_toNat, if_pos rfl, ih]
    rfl
theorem Step_ustr {X : Outer} {ops : Array Oper} {dd : Option Tmp} {ty : TypeId} {pos : String} {af : Array Edge} {e : Env} {H : Hp} {K : Value → Hp → Prop} (pt it : TypeId) (s x : Operand) :
    Step Tryd.prog X ops ⟨dd, .call ⟨.builtin .unsafeString, #[s, x], #[pt, it]⟩, ty, pos, af, none⟩ e H K = With (austr Tryd.prog pt (aeval e s) (aeval e x) H) (Hold fun r => K r.1 r.2) := by
  rw [Step_heavy _ rfl]
  simp only [hop, With_map]
  rfl
theorem lop_data {ρ : Operand → Value} {H : Hp} (x : Operand) (ts : Array TypeId) : lop Tryd.prog ρ H (.call ⟨.builtin .unsafeSliceData, #[x], ts⟩) = adata (ρ x) := by
  simp only [lop]
theorem Step_data {X : Outer} {ops : Array Oper} {dd : Option Tmp} {ty : TypeId} {pos : String} {af : Array Edge} {e : Env} {H : Hp} {K : Value → Hp → Prop} (x : Operand) (ts : Array TypeId) :
    Step Tryd.prog X ops ⟨dd, .call ⟨.builtin .unsafeSliceData, #[x], ts⟩, ty, pos, af, none⟩ e H K = With (adata (aeval e x)) (Hold fun v => K v H) := by
  rw [← lop_data (H := H) x ts]; exact Step_light _ rfl
attribute [local irreducible] Hold DR DF Df Dc WP With
/-- A builder's first use writes its own address down. -/
def cpG : List Value → Hp → Option (Value × Hp) := fun args H => match args with
  | [.pointer (some ⟨i, 0, none⟩)] => (match H.get i with
    | .cells true e [.pointer none, s] => if e = bxT 145 then some (.tuple #[], H.put i (.cells true e [.pointer (some ⟨i, 0, none⟩), s])) else none
    | .cells true e [.pointer (some c), s] => if e = bxT 145 ∧ c = ⟨i, 0, none⟩ then some (.tuple #[], H) else none
    | _ => none)
  | _ => none
theorem one_arg {φ : Plan} {v : Value} {args' : List Value} (h : VRs φ [v] args') : ∃ v', args' = [v'] ∧ VR φ v v' := by
  match args', h.1 with
  | [v'], _ => exact ⟨v', rfl, h.head⟩
theorem cp_sound {B : Nat} {w0 : World} : KSound Tryd.prog B w0 fun f' args H => if f' = 172 then cpG args H else none := by
  intro b hb f' args H v H' hr φ w args' hR ha
  simp only at hr
  split at hr
  · rename_i hff
    subst hff
    unfold cpG at hr
    split at hr
    · rename_i i
      obtain ⟨v', rfl, hv⟩ := one_arg ha
      cases hv with
      | ptr _ _ m hm =>
        split at hr
        · rename_i e s hg
          split at hr
          · rename_i he
            subst he
            cases hr
            obtain ⟨c1, h1, h2, h3⟩ := cell_at hR (a := ⟨i, 0, none⟩) (v := Value.pointer none) (by simp [cellAt, hg]) hm
            cases h2
            obtain ⟨cur, e', fr, hh, hbx, hsz, hvr, hone, hown⟩ := cells_blk hR hg hm
            obtain ⟨b1, b2, b3⟩ := (hbx rfl).1 (bxT_1 _)
            rw [elT_bx] at b1
            subst b1
            simp only [b2, Nat.zero_add] at h1 ⊢
            obtain ⟨k1, k2, k3, k4⟩ := hown rfl
            have b3' : cur.size = 2 := b3
            have hfz : w.frozen? ⟨m.blk, 0, none⟩ = false := by
              simp only [World.frozen?, hh]
              refine k4 0 ?_
              simp only [List.length_cons, List.length_nil] at k3
              omega
            refine (check_fresh m.blk w h1 (by simp [World.shape?, hh, b3']) hfz).mono ?_
            rintro e w' ⟨rfl, rfl⟩
            have hself : VRs φ [Value.pointer (some ⟨i, 0, none⟩)] [Value.pointer (some ⟨m.blk, 0, none⟩)] := .cons (by have := VR.ptr (φ := φ) i 0 m hm; rwa [b2] at this) (.nil φ)
            obtain ⟨cur2, e2, fr2, g1, _, g3⟩ := hR.store (P := Tryd.prog) hg hm (off := 0) (vs := [Value.pointer (some ⟨i, 0, none⟩)]) (vs' := [Value.pointer (some ⟨m.blk, 0, none⟩)]) (by simp) hself (by intro v hv; simp at hv; subst hv; rfl)
            rw [hh] at g1
            cases g1
            rw [setCell_eq_setRow w m.blk 0 cur _ fr _ hh]
            refine ⟨φ, _, Plan.le_refl φ, rfl, .junk _, ?_⟩
            have ec : (cur.setIfInBounds 0 (Value.pointer (some ⟨m.blk, 0, none⟩))) = (cur.toList.take (m.base + 0) ++ [Value.pointer (some ⟨m.blk, 0, none⟩)] ++ cur.toList.drop (m.base + 0 + [Value.pointer (some ⟨m.blk, 0, none⟩)].length)).toArray := by
              rw [b2]
              obtain ⟨l⟩ := cur
              match l, b3' with
              | [x, y], _ => rfl
            rw [ec]
            exact g3
          · cases hr
        · rename_i e c s hg
          split at hr
          · rename_i hc
            obtain ⟨he, rfl⟩ := hc
            subst he
            cases hr
            obtain ⟨c1, h1, h2, h3⟩ := cell_at hR (a := ⟨i, 0, none⟩) (v := Value.pointer (some ⟨i, 0, none⟩)) (by simp [cellAt, hg]) hm
            obtain ⟨cur, e', fr, hh, hbx, _⟩ := cells_blk hR hg hm
            obtain ⟨b1, b2, b3⟩ := (hbx rfl).1 (bxT_1 _)
            cases h2 with
            | ptr _ _ m2 hm2 =>
              rw [hm] at hm2
              cases hm2
              simp only [b2, Nat.zero_add] at h1 ⊢
              refine (check_used m.blk w h1).mono ?_
              rintro e w' ⟨rfl, rfl⟩
              exact ⟨φ, _, Plan.le_refl φ, rfl, .junk _, hR⟩
          · cases hr
        · cases hr
    · cases hr
  · cases hr
/-! ### A builder's bytes -/
/-- A row of bytes of one's own, or the nil slice. -/
def Row (n0 i : Nat) (H : Hp) (s : Value) (l : List UInt8) : Prop :=
  (l = [] ∧ s = .slice none 0 0) ∨ ∃ j, s = .slice (some ⟨j, 0, none⟩) l.length 1 ∧ n0 ≤ j ∧ j < H.next ∧ j ≠ i ∧ l ≠ [] ∧ H.get j = .cells true (slT 5) (l.map cb)
/-- A builder in block i that holds these bytes; what was there at H0 stands. -/
def Bld (H0 H : Hp) (i : Nat) (l : List UInt8) : Prop := H0.next ≤ i ∧ i < H.next ∧ (∀ b, b < H0.next → H.get b = H0.get b) ∧
  ∃ a s, H.get i = .cells true (bxT 145) [.pointer a, s] ∧ (a = none ∨ a = some ⟨i, 0, none⟩) ∧ Row H0.next i H s l
theorem Row.frame {n0 i : Nat} {H H' : Hp} {s : Value} {l : List UInt8} (h : Row n0 i H s l) (hn : H.next ≤ H'.next) (hg : ∀ j, n0 ≤ j → j < H.next → j ≠ i → H'.get j = H.get j) : Row n0 i H' s l := by
  rcases h with h | ⟨j, h1, h2, h3, h4, h5, h6⟩
  · exact .inl h
  · exact .inr ⟨j, h1, h2, by omega, h4, h5, by rw [hg j h2 h3 h4, h6]⟩
theorem Row.len {n0 i : Nat} {H : Hp} {s : Value} {l : List UInt8} (h : Row n0 i H s l) : isTup s = false ∧ s.cells = #[s] := by
  rcases h with ⟨_, rfl⟩ | ⟨j, rfl, _⟩ <;> exact ⟨rfl, rfl⟩
theorem Row.grow {n0 i : Nat} {H : Hp} {s : Value} {l new : List UInt8} (h : Row n0 i H s l) (h0 : new ≠ []) (hl : l.length + new.length ≤ 140737488355328) :
    ∃ Hb, agrow2 5 1 1 s new.length (new.map cb) H = some (.slice (some ⟨H.next, 0, none⟩) (l ++ new).length 1, Hb) ∧ Hb.next = H.next + 1 ∧ Hb.get H.next = .cells true (slT 5) ((l ++ new).map cb) ∧ ∀ b, b < H.next → (b < n0 ∨ b = i) → Hb.get b = H.get b := by
  have hk : new.length ≠ 0 := by simpa using h0
  rcases h with ⟨rfl, rfl⟩ | ⟨j, rfl, h2, h3, h4, h5, h6⟩
  · refine ⟨H.push (.cells true (slT 5) (new.map cb)), ?_, next_push _ _, by rw [get_push, if_pos rfl]; simp, fun b hb _ => by rw [get_push, if_neg (by omega)]⟩
    simp only [agrow2, hk, if_false]
    rw [if_pos ⟨by simp at hl ⊢; omega, by simp at hl; omega⟩]
    simp
  · refine ⟨(H.put j .dead).push (.cells true (slT 5) ((l ++ new).map cb)), ?_, by rw [next_push, next_put], by rw [get_push, next_put, if_pos rfl], fun b hb hor => by rw [get_push, next_put, if_neg (by omega), get_put, if_neg (by omega)]⟩
    simp only [agrow2, hk, if_false, h6]
    rw [if_pos ⟨trivial, trivial, by simp, by omega, by omega⟩]
    have : agT (slT 5) 5 0 = slT 5 := by simp [agT]
    simp only [this]
    have e1 : List.take (l.length * 1) (List.drop 0 (l.map cb)) ++ new.map cb = (l ++ new).map cb := by
      rw [List.drop_zero, List.take_of_length_le (by simp), List.map_append]
    rw [e1, List.length_append]
theorem cp_spec {X : Outer} (hX : X 172 = some cpG) {H0 H : Hp} {i : Nat} {l : List UInt8} (h : Bld H0 H i l) :
    Df Tryd.prog X 172 [.pointer (some ⟨i, 0, none⟩)] H fun _ H' => Bld H0 H' i l ∧ H'.next = H.next := by
  obtain ⟨h1, h2, h3, a, s, h4, h5, h6⟩ := h
  rcases h5 with rfl | rfl
  · refine Df_ext (r := (.tuple #[], H.put i (.cells true (bxT 145) [.pointer (some ⟨i, 0, none⟩), s]))) hX (by simp [cpG, h4]) ⟨⟨h1, by rw [next_put]; exact h2, fun b hb => by rw [get_put, if_neg (by omega)]; exact h3 b hb, some ⟨i, 0, none⟩, s, by rw [get_put, if_pos rfl], .inr rfl, ?_⟩, next_put _ _ _⟩
    exact h6.frame (by rw [next_put]; exact Nat.le_refl _) fun j _ _ hj => by rw [get_put, if_neg hj]
  · exact Df_ext (r := (.tuple #[], H)) hX (by simp [cpG, h4]) ⟨⟨h1, h2, h3, _, s, h4, .inr rfl, h6⟩, rfl⟩
theorem ae_nili (e : Env) : aeval e (.const .nilIface) = .nilIface := _root_.id rfl
theorem cb_as (b : UInt8) : Value.int .u8 (b.toNat : Int) = cb b := rfl
theorem wb_spec {X : Outer} (hX : X 156 = none) (hXc : X 172 = some cpG) {H0 H : Hp} {i : Nat} {l : List UInt8} {b : UInt8} (h : Bld H0 H i l) (hl : l.length + 1 ≤ 140737488355328) :
    Df Tryd.prog X 156 [.pointer (some ⟨i, 0, none⟩), cb b] H fun r H' => r = .nilIface ∧ Bld H0 H' i (l ++ [b]) := by
  refine Df_text hX Tryd.func156 rfl (by kernel_rfl) (by show 2 ≤ _; decide) ?_
  simp -dsimp only [↓WP_seq, ↓WP_region, ↓WP_ret, ↓DR_one, ↓DR_nil, ↓Step_move, ↓Step_assign, ↓Step_nilCheck, ↓Step_call, ↓Hold_1, With_some, ↓eget_eset, ↓ae_tmp, eget_zero, lop_nil, ↓finish_ret, ↓ares_nil, ↓ares_tmp, ret1, Option.map_some, ↓reduceIte, reduceCtorEq, List.map_cons, List.map_nil, List.toList_toArray, Tryd.results156, fk172]
  refine (cp_spec hXc h).mono ?_
  rintro r H1 ⟨⟨h1, h2, h3, a, s, h4, h5, h6⟩, _⟩
  generalize hHa : H1.push (.cells true (slT 5) [cb b]) = Ha
  have na : Ha.next = H1.next + 1 := by rw [← hHa, next_push]
  have ga : ∀ j, j < H1.next → Ha.get j = H1.get j := fun j hj => by rw [← hHa, get_push, if_neg (by omega)]
  have h6a : Row H0.next i Ha s l := h6.frame (by omega) fun j _ hj _ => ga j hj
  obtain ⟨Hb, b1, b2, b3, b4⟩ := h6a.grow (new := [b]) (by simp) (by simpa using hl)
  have hbi : Hb.get i = .cells true (bxT 145) [.pointer a, s] := by rw [b4 i (by omega) (.inr rfl), ga i h2, h4]
  have hne : i ≠ H1.next := by omega
  have htk : [cb b].take 1 = [cb b] := rfl
  have ltup : isTup s = false := h6.len.1
  simp only [List.length_singleton, List.map_cons, List.map_nil] at b1
  have gx : Ha.get H1.next = .cells true (slT 5) [cb b] := by rw [← hHa, get_push, if_pos rfl]
  simp -dsimp only [↓DR_one, ↓DR_non, ↓DR_nil, ↓Step_move, ↓Step_load, ↓Step_nilCheck, ↓Step_fieldAddr, ↓Step_buildSlice, ↓Step_store, ↓Step_append, ↓Hold_1, ↓Hold_2, With_some, ↓eget_eset, ↓ae_tmp, eget_zero, eget_succ, lop_nil, Option.map_some, Option.bind_some, ↓reduceIte, Nat.reduceEqDiff, reduceCtorEq, Bool.not_false, List.getElem?_cons_zero, List.getElem?_cons_succ, Nat.zero_add, Nat.reduceAdd, Nat.reduceMul, Nat.reduceLeDiff, true_and, and_self, List.map_cons, List.map_nil, List.all_cons, List.all_nil, cel_int, tup_slice, cel_slice, Bool.and_true, List.drop_zero, List.toList_toArray, List.size_toArray, List.length_cons, List.length_nil, fill_one, cellAt, cellsAt, acells, alenOf, Nat.le_refl, fa145_1, ld129, bs129, gr129, h4, ↓cb_cells, ↓cb_tup, htk, hHa, gx, b1, so129, hbi, ↓ae_nili]
  refine ⟨h1, by rw [next_put]; omega, fun k hk => by rw [get_put, if_neg (by omega), b4 k (by omega) (.inl hk), ga k (by omega), h3 k hk], a, _, by rw [get_put, if_pos rfl]; rfl, h5, ?_⟩
  exact .inr ⟨Ha.next, rfl, by omega, by rw [next_put]; omega, by omega, by simp, by rw [get_put, if_neg (by omega), b3]⟩
theorem bytes_of (h : Tryd.prog.cellsOf 5 = 1) {H : Hp} {j : Nat} {l : List UInt8} (h0 : l ≠ []) (hl : l.length ≤ 140737488355328) (hg : H.get j = .cells true (slT 5) (l.map cb)) :
    austr Tryd.prog 170 (.pointer (some ⟨j, 0, none⟩)) (.int .i64 l.length) H = some (.string ⟨l.toArray⟩, H.put j .dead) := by
  have hn : l.length ≠ 0 := by simpa using h0
  unfold austr
  split
  · rename_i h1 h2; cases h1
  · rename_i a n h1 h2
    cases h1
    cases h2
    simp only [Tryd.underlying170, hg, h]
    rw [if_pos ⟨trivial, trivial, trivial, trivial, by omega, by simp, by omega⟩]
    rw [Int.toNat_natCast, List.take_of_length_le (by simp), exact_cb]
    rfl
  · rename_i h1 h2
    exact absurd rfl (h2 _ _ rfl)
theorem u8_cells : Tryd.prog.cellsOf 5 = 1 := by kernel_rfl
theorem strg_spec {X : Outer} (hX : X 150 = none) {H0 H : Hp} {i : Nat} {l : List UInt8} (h : Bld H0 H i l) (hl : l.length ≤ 140737488355328) :
    Df Tryd.prog X 150 [.pointer (some ⟨i, 0, none⟩)] H fun r H' => r = .string ⟨l.toArray⟩ ∧ H0.next ≤ H'.next ∧ ∀ b, b < H0.next → H'.get b = H0.get b := by
  obtain ⟨h1, h2, h3, a, s, h4, h5, h6⟩ := h
  refine Df_text hX Tryd.func150 rfl (by kernel_rfl) (by show 1 ≤ _; decide) ?_
  rcases h6 with ⟨rfl, rfl⟩ | ⟨j, rfl, g2, g3, g4, g5, g6⟩
  · have hu : austr Tryd.prog 170 (.pointer none) (.int .i64 0) H = some (.string .empty, H) := by simp [austr]
    have hn : alen Tryd.prog 129 (.slice none 0 0) H = some (.int .i64 0) := ln129 H none 0 0
    simp -dsimp only [↓WP_seq, ↓WP_region, ↓WP_open, ↓DR_one, ↓DR_nil, ↓Step_assign, ↓Hold_1, With_some, ↓ae_string]
    refine Dc_any [[], [], [], [], [], [], [], [], [], [], [], []] (by kernel_rfl) (by kernel_rfl) ?_
    simp -dsimp only [↓WP_ret, ↓DF_one0, ↓DF_nil, ↓Step_move, ↓Step_assign, ↓Step_load, ↓Step_nilCheck, ↓Step_fieldAddr, ↓Step_len, ↓Hold_1, ↓Hold_3, With_some, ↓eget_eset, ↓ae_tmp, eget_zero, lop_nil, lop_len, light, ↓finish_ret, ↓ares_nil, ↓ares_tmp, ret1, Option.map_some, ↓reduceIte, Nat.reduceEqDiff, reduceCtorEq, Bool.false_eq_true, List.getElem?_cons_zero, List.getElem?_cons_succ, Nat.zero_add, true_and, List.toList_toArray, met_nil, List.reverse_cons, List.reverse_nil, List.nil_append, List.cons_append, cellAt, Tryd.results150, h4, fa145_1, ld129, Step_ustr, Step_data, adata, hu, hn]
    exact ⟨rfl, by omega, h3⟩
  · have hu := bytes_of u8_cells g5 hl g6
    have hj : j < H.next := g3
    have hl0 : l.length ≠ 0 := by simpa using g5
    obtain ⟨k, hk⟩ : ∃ k, l.length = k + 1 := ⟨l.length - 1, by omega⟩
    have hd : adata (.slice (some ⟨j, 0, none⟩) l.length 1) = some (.pointer (some ⟨j, 0, none⟩)) := by rw [hk]; rfl
    have hn : alen Tryd.prog 129 (.slice (some ⟨j, 0, none⟩) l.length 1) H = some (.int .i64 l.length) := ln129 H _ _ _
    simp -dsimp only [↓WP_seq, ↓WP_region, ↓WP_open, ↓DR_one, ↓DR_nil, ↓Step_assign, ↓Hold_1, With_some, ↓ae_string]
    refine Dc_any [[], [], [], [], [], [], [], [], [], [], [], []] (by kernel_rfl) (by kernel_rfl) ?_
    simp -dsimp only [↓WP_ret, ↓DF_one0, ↓DF_nil, ↓Step_move, ↓Step_assign, ↓Step_load, ↓Step_nilCheck, ↓Step_fieldAddr, ↓Step_len, ↓Hold_1, ↓Hold_3, With_some, ↓eget_eset, ↓ae_tmp, eget_zero, lop_nil, lop_len, light, ↓finish_ret, ↓ares_nil, ↓ares_tmp, ret1, Option.map_some, ↓reduceIte, Nat.reduceEqDiff, reduceCtorEq, Bool.false_eq_true, List.getElem?_cons_zero, List.getElem?_cons_succ, Nat.zero_add, true_and, List.toList_toArray, met_nil, List.reverse_cons, List.reverse_nil, List.nil_append, List.cons_append, get_put, next_put, cellAt, Tryd.results150, h4, fa145_1, ld129, Step_ustr, Step_data, hd, hu, hn]
    exact ⟨by omega, fun b hb => by rw [if_neg (by omega), h3 b hb]⟩
end Go.Proofs.YtmdpggecelheoaaDoor.Abs
/- CONCAT over the plain heap, with strings.Builder. -/
set_option linter.unusedVariables false
set_option linter.unusedSimpArgs false
set_option maxRecDepth 4000
namespace Go.Proofs.YtmdpggecelheoaaDoor.Abs
open Go Go.RowKit
theorem grs (H : Hp) (s x : Value) : aappend Tryd.prog 129 9 s x H = (acells 1 x (alenOf x) H).bind fun new => agrow2 5 1 1 s (alenOf x) new H := aappend_eq el129 if129 (by kernel_rfl) s x
attribute [local irreducible] Hold DR DF Df Dc WP With
theorem ws_spec {X : Outer} (hX : X 149 = none) (hXc : X 172 = some cpG) {H0 H : Hp} {i : Nat} {l : List UInt8} {s : ByteArray} (h : Bld H0 H i l) (hl : l.length + s.size ≤ 140737488355328) :
    Df Tryd.prog X 149 [.pointer (some ⟨i, 0, none⟩), .string s] H fun r H' => r = .tuple #[.int .i64 s.size, .nilIface] ∧ Bld H0 H' i (l ++ sb s) := by
  refine Df_text hX Tryd.func149 rfl (by kernel_rfl) (by show 2 ≤ _; decide) ?_
  simp -dsimp only [↓WP_seq, ↓WP_region, ↓WP_ret, ↓DR_one, ↓DR_nil, ↓Step_move, ↓Step_assign, ↓Step_nilCheck, ↓Step_len, ↓Step_call, ↓Hold_1, With_some, ↓eget_eset, ↓ae_tmp, ↓ae_int, eget_zero, lop_nil, lop_len, ↓finish_ret, ↓ares_nil, ↓ares_tmp, ret1, Option.map_some, ↓reduceIte, reduceCtorEq, List.map_cons, List.map_nil, List.toList_toArray, Tryd.results149, fk172]
  refine (cp_spec hXc h).mono ?_
  rintro r H1 ⟨hb, _⟩
  obtain ⟨h1, h2, h3, a, q, h4, h5, h6⟩ := hb
  have hqt := h6.len
  by_cases h0 : s.size = 0
  · have hs0 : sb s = [] := by rw [← List.length_eq_zero_iff, sb_len]; exact h0
    have hg : agrow2 5 1 1 q s.size ((sb s).map cb) H1 = some (q, H1) := by
      rw [h0]
      rcases h6 with ⟨_, rfl⟩ | ⟨j, rfl, _⟩ <;> simp [agrow2]
    simp -dsimp only [↓DR_one, ↓DR_non, ↓DR_nil, ↓Step_move, ↓Step_assign, ↓Step_load, ↓Step_nilCheck, ↓Step_fieldAddr, ↓Step_store, ↓Step_append, ↓Hold_1, ↓Hold_2, With_some, ↓eget_eset, ↓ae_tmp, eget_zero, eget_succ, lop_nil, Option.bind_some, ↓reduceIte, Nat.reduceEqDiff, reduceCtorEq, List.getElem?_cons_zero, List.getElem?_cons_succ, Nat.zero_add, Nat.reduceAdd, true_and, and_self, List.toList_toArray, List.size_toArray, List.length_cons, List.length_nil, cellAt, alenOf, Nat.le_refl, fa145_1, ld129, grs, ↓acells_str, h4, hg, so129, hqt.1, hqt.2, ln9, ↓ae_nili]
    refine ⟨h1, by rw [next_put]; exact h2, fun k hk => by rw [get_put, if_neg (by omega), h3 k hk], a, q, by rw [get_put, if_pos rfl]; rfl, h5, ?_⟩
    rw [hs0, List.append_nil]
    exact h6.frame (by rw [next_put]; exact Nat.le_refl _) fun j _ _ hj => by rw [get_put, if_neg hj]
  · have hne : sb s ≠ [] := fun h => h0 (by rw [← sb_len, h]; rfl)
    obtain ⟨Hb, b1, b2, b3, b4⟩ := h6.grow (new := sb s) hne (by rw [sb_len]; exact hl)
    rw [sb_len] at b1
    have hbi : Hb.get i = .cells true (bxT 145) [.pointer a, q] := by rw [b4 i h2 (.inr rfl), h4]
    simp -dsimp only [↓DR_one, ↓DR_non, ↓DR_nil, ↓Step_move, ↓Step_assign, ↓Step_load, ↓Step_nilCheck, ↓Step_fieldAddr, ↓Step_store, ↓Step_append, ↓Hold_1, ↓Hold_2, With_some, ↓eget_eset, ↓ae_tmp, eget_zero, eget_succ, lop_nil, Option.bind_some, ↓reduceIte, Nat.reduceEqDiff, reduceCtorEq, List.getElem?_cons_zero, List.getElem?_cons_succ, Nat.zero_add, Nat.reduceAdd, true_and, and_self, tup_slice, cel_slice, List.toList_toArray, List.size_toArray, List.length_cons, List.length_nil, cellAt, alenOf, Nat.le_refl, fa145_1, ld129, grs, ↓acells_str, h4, b1, so129, hbi, ln9, ↓ae_nili]
    refine ⟨h1, by rw [next_put]; omega, fun k hk => by rw [get_put, if_neg (by omega), b4 k (by omega) (.inl hk), h3 k hk], a, _, by rw [get_put, if_pos rfl]; rfl, h5, ?_⟩
    have hlen : (l ++ sb s) ≠ [] := by simp [hne]
    exact .inr ⟨H1.next, rfl, by omega, by rw [next_put]; omega, by omega, hlen, by rw [get_put, if_neg (by omega), b3]⟩
theorem Bld.frame {H0 H H' : Hp} {i : Nat} {l : List UInt8} (h : Bld H0 H i l) (hn : H.next ≤ H'.next) (hg : ∀ b, b < H.next → H'.get b = H.get b) : Bld H0 H' i l := by
  obtain ⟨h1, h2, h3, a, s, h4, h5, h6⟩ := h
  exact ⟨h1, by omega, fun b hb => by rw [hg b (by omega), h3 b hb], a, s, by rw [hg i h2, h4], h5, h6.frame hn fun j _ hj _ => hg j hj⟩
theorem bld_new {H : Hp} : Bld H (H.push (.cells true (bxT 145) [.pointer none, .slice none 0 0])) H.next [] :=
  ⟨Nat.le_refl _, by rw [next_push]; omega, fun b hb => by rw [get_push, if_neg (by omega)], none, .slice none 0 0, by rw [get_push, if_pos rfl], .inl rfl, .inl ⟨rfl, rfl⟩⟩
theorem cells3 {H : Hp} {j : Nat} {e : TypeId} {a b c : Value} : cellsAt (H.put j (.cells true e [a, b, c])) ⟨j, 0, none⟩ 3 = some [a, b, c] := by simp [cellsAt, get_put]
theorem setAll3 {x y z a b c : Value} : setAll [x, y, z] 0 [a, b, c] = [a, b, c] := _root_.id rfl
/-- Values' texts, one behind the other. -/
def catF (f : VV → ByteArray) (l : List VV) : List UInt8 := l.flatMap fun x => sb (f x)
theorem catF_take (f : VV → ByteArray) (l : List VV) (i : Nat) (h : i < l.length) : catF f (l.take (i + 1)) = catF f (l.take i) ++ sb (f l[i]) := by
  unfold catF
  rw [← List.take_append_getElem h, List.flatMap_append]
  simp
theorem catF_len (f : VV → ByteArray) (n : Nat) (l : List VV) (h : ∀ x ∈ l, (f x).size ≤ n) : (catF f l).length ≤ l.length * n := by
  induction l with
  | nil => simp [catF]
  | cons x l ih =>
    have h1 := h x (by simp)
    have h2 := ih fun y hy => h y (by simp [hy])
    have e : (catF f (x :: l)).length = (f x).size + (catF f l).length := by
      simp only [catF, List.flatMap_cons, List.length_append, sb_len]
    rw [e, List.length_cons, Nat.add_mul]
    omega
theorem concat_spec {X : Outer} (hX : X 100 = none) (hXw : X 149 = none) (hXc : X 172 = some cpG) (hXs : X 150 = none) {f : VV → ByteArray} {g : ByteArray → VV} {l : List VV} (hl : l.length ≤ 1000) (hf : ∀ x ∈ l, (f x).size ≤ 1000)
    (hshow : ∀ x ∈ l, ∀ H, Df Tryd.prog X 105 [x.v] H fun r H' => r = .string (f x) ∧ H.next ≤ H'.next ∧ ∀ b, b < H.next → H'.get b = H.get b)
    (htext : ∀ s H, Df Tryd.prog X 145 [.string s] H fun r H' => r = (g s).v ∧ H.next ≤ H'.next ∧ ∀ b, b < H.next → H'.get b = H.get b)
    {H : Hp} {v : Value} (hv : (l = [] ∧ ∃ p q, v = .slice p 0 q) ∨ ∃ b off, v = .slice (some ⟨b, off, none⟩) l.length 3 ∧ b < H.next ∧ ∀ (i : Nat) x, l[i]? = some x → cellsAt H ⟨b, off + i * 3, none⟩ 3 = some [.int .i64 x.k, .int .i64 x.n, .string x.s]) :
    Df Tryd.prog X 100 [v] H fun r H' => r = (g ⟨(catF f l).toArray⟩).v ∧ H.next ≤ H'.next ∧ ∀ b, b < H.next → H'.get b = H.get b := by
  refine Df_text hX Tryd.func100 rfl (by kernel_rfl) (by show 1 ≤ _; decide) ?_
  have hvl : ∃ p q, v = .slice p l.length q := by
    rcases hv with ⟨rfl, p, q, rfl⟩ | ⟨b, off, rfl, _⟩
    · exact ⟨p, q, rfl⟩
    · exact ⟨_, _, rfl⟩
  obtain ⟨p, q, hpq⟩ := hvl
  have hln : ∀ H, alen Tryd.prog 42 v H = some (.int .i64 l.length) := fun H => by rw [hpq]; exact ln42 H _ _ _
  simp -dsimp only [↓WP_seq, ↓WP_region, ↓WP_block, ↓WP_loop, ↓DR_one, ↓DR_nil, ↓Step_move, ↓Step_len, ↓Hold_1, With_some, ↓eget_eset, ↓ae_tmp, ↓ae_int, eget_zero, lop_len, ↓reduceIte, reduceCtorEq, next_push, al48, al145, hln]
  generalize hHa : H.push (.cells true (bxT 48) [.int .i64 0, .int .i64 0, .string .empty]) = Ha
  have na : Ha.next = H.next + 1 := by rw [← hHa, next_push]
  have ga : ∀ j, j < H.next → Ha.get j = H.get j := fun j hj => by rw [← hHa, get_push, if_neg (by omega)]
  have gt : Ha.get H.next = .cells true (bxT 48) [.int .i64 0, .int .i64 0, .string .empty] := by rw [← hHa, get_push, if_pos rfl]
  refine Dc_loop (fun m e Hc => ∃ i : Nat, m = l.length - i ∧ i ≤ l.length ∧ eget e 6 = v ∧ eget e 7 = .int .i64 l.length ∧ eget e 8 = .int .i64 i ∧ eget e 2 = .pointer (some ⟨H.next, 0, none⟩) ∧ eget e 3 = .pointer (some ⟨Ha.next, 0, none⟩) ∧ Bld Ha Hc Ha.next (catF f (l.take i))) l.length ?_ ?_
  · refine ⟨0, rfl, Nat.zero_le _, ?_, ?_, ?_, ?_, ?_, bld_new⟩
    all_goals first | (simp only [↓eget_eset, ↓reduceIte, Nat.reduceEqDiff, na]; done) | (simp only [↓eget_eset, ↓reduceIte]; rfl)
  · rintro m e Hc ⟨i, rfl, hi, e6, e7, e8, e2, e3, hb⟩
    refine WP_Dc _ _ _ _ ?_
    have hnc : Ha.next < Hc.next := hb.2.1
    by_cases hin : i < l.length
    · have hlt : (i : Int) < l.length := by omega
      have h0 : (0 : Int) ≤ i := by omega
      have w1 : IntKind.i64.wrap ((i : Int) + 1) = ((i + 1 : Nat) : Int) := by rw [wrap_id (by omega) (by omega)]; omega
      have hx : l[i]? = some l[i] := List.getElem?_eq_getElem hin
      have hmem : l[i] ∈ l := List.getElem_mem hin
      have ht := catF_take f l i hin
      have hlen : (catF f (l.take i)).length ≤ i * 1000 := by
        have := catF_len f 1000 (l.take i) fun x hx => hf x (List.mem_of_mem_take hx)
        rw [List.length_take] at this
        have h2 : min i l.length = i := by omega
        rw [h2] at this
        exact this
      rcases hv with ⟨rfl, _⟩ | ⟨b, off, rfl, hbn, hcell⟩
      · simp at hin
      · have hld := hcell i _ hx
        have hs1 := hshow _ hmem
        have hf1 := hf _ hmem
        generalize l[i] = x at hld hs1 hf1 ht
        obtain ⟨xk, xn, xs⟩ := x
        simp only [VV.v] at hs1
        simp only at hld
        have hbc : Hc.get b = H.get b := by rw [hb.2.2.1 b (by omega), ga b hbn]
        have hld2 : cellsAt Hc ⟨b, off + i * 3, none⟩ 3 = some [.int .i64 xk, .int .i64 xn, .string xs] := by
          rw [← hld]
          unfold cellsAt
          simp only [hbc]
        simp -dsimp only [↓WP_seq, ↓WP_region, ↓WP_cond, ↓WP_skip, ↓WP_block, ↓DR_one, ↓DR_non, ↓DR_nil, ↓Step_load, ↓Step_binOp, ↓Step_indexAddr, ↓Step_store, ↓Step_call, ↓Hold_1, With_some, ↓eget_eset, ↓ae_tmp, ↓ae_int, asBool_bool, Option.map_some, ↓reduceIte, Nat.reduceEqDiff, decide_true, Nat.zero_add, Nat.reduceAdd, and_self, List.map_cons, List.map_nil, tup_agg, cel_agg, List.toList_toArray, List.size_toArray, List.length_cons, List.length_nil, abin_lss, Int.toNat_natCast, decide_true, get_push, setAll_whole, Nat.le_refl, cells3, e6, e7, e8, hlt, h0, ix42, Int.toNat_natCast, hld2, al48, so48, ld48, fk105, Option.map_some]
        generalize hHd : (Hc.push (.cells true (bxT 48) [.int .i64 0, .int .i64 0, .string .empty])).put Hc.next _ = Hd
        have nd : Hd.next = Hc.next + 1 := by rw [← hHd, next_put, next_push]
        have gd : ∀ j, j < Hc.next → Hd.get j = Hc.get j := fun j hj => by rw [← hHd, get_put, if_neg (by omega), get_push, if_neg (by omega)]
        refine (hs1 Hd).mono ?_
        rintro r H1 ⟨rfl, n1, g1⟩
        have hb1 := hb.frame (H' := H1) (by omega) fun j hj => by rw [g1 j (by omega), gd j hj]
        simp -dsimp only [↓DR_one, ↓Step_call, ↓Hold_2, ↓eget_eset, ↓ae_tmp, ↓reduceIte, Nat.reduceEqDiff, List.map_cons, List.map_nil, e3, fk149]
        refine (ws_spec hXw hXc hb1 (by omega)).mono ?_
        rintro r2 H2 ⟨rfl, hb2⟩
        simp -dsimp only [↓DR_one, ↓DR_nil, ↓Step_move, ↓Hold_1, ↓Hold_2, With_some, ↓eget_eset, ↓ae_tmp, ↓reduceIte, Nat.reduceEqDiff, true_and, abin_add, e6, e7, e8, e2, e3, w1]
        exact ⟨l.length - (i + 1), by omega, i + 1, rfl, by omega, rfl, by rw [ht]; exact hb2⟩
    · obtain rfl : i = l.length := by omega
      have hlt : ¬ (l.length : Int) < l.length := by omega
      rw [List.take_length] at hb
      have hlen := catF_len f 1000 l hf
      simp -dsimp only [↓WP_seq, ↓WP_region, ↓WP_cond, ↓WP_ret, ↓WP_exit, ↓DR_one, ↓DR_nil, ↓Step_binOp, ↓Step_call, ↓With_mapH, ↓With_bindH, ↓Hold_1, ↓Hold_3, With_some, ↓eget_eset, ↓ae_tmp, asBool_bool, ↓finish_ret, ↓ares_nil, ↓ares_cell, ret1, Option.map_some, ↓reduceIte, Nat.reduceEqDiff, Bool.false_eq_true, decide_false, List.map_cons, List.map_nil, List.toList_toArray, abin_lss, decide_false, Tryd.results100, e7, e8, e3, hlt, fk150]
      refine (strg_spec hXs hb (by omega)).mono ?_
      rintro r1 H1 ⟨rfl, n1, g1⟩
      simp -dsimp only [↓DR_one, ↓Step_call, ↓Hold_2, ↓eget_eset, ↓ae_tmp, ↓reduceIte, List.map_cons, List.map_nil, fk145]
      refine (htext _ H1).mono ?_
      rintro r2 H2 ⟨rfl, n2, g2⟩
      have gt2 : H2.get H.next = .cells true (bxT 48) [.int .i64 0, .int .i64 0, .string .empty] := by rw [g2 _ (by omega), g1 _ (by omega), gt]
      generalize g ⟨(catF f l).toArray⟩ = R
      obtain ⟨rk, rn, rs⟩ := R
      simp -dsimp only [↓DR_non, ↓DR_nil, ↓Step_store, ↓Hold_1, ↓Hold_2, With_some, ↓eget_eset, ↓ae_tmp, Option.map_some, ↓reduceIte, Nat.reduceEqDiff, Nat.zero_add, Nat.reduceAdd, Nat.reduceLeDiff, true_and, and_self, tup_agg, cel_agg, List.toList_toArray, List.size_toArray, List.length_cons, List.length_nil, get_put, next_put, cells3, e2, gt2, so48, ld48, VV.v, setAll3, Option.map_some]
      exact ⟨by omega, fun b hb => by rw [if_neg (by omega), g2 b (by omega), g1 b (by omega), ga b hb]⟩
end Go.Proofs.YtmdpggecelheoaaDoor.Abs
/- How a value that is no error is shown; a text made. -/
set_option linter.unusedVariables false
set_option linter.unusedSimpArgs false
set_option maxRecDepth 4000
set_option maxHeartbeats 0
namespace Go.Proofs.YtmdpggecelheoaaDoor.Abs
open Go
attribute [local irreducible] Hold VReg Vf Vc VWP With VStp Vcallee Vp VE
/-- How a value that may be, and is no error, is shown. -/
def showF (x : VV) : ByteArray := if x.k = 1 then ⟨(Lib.itoa x.n).toArray⟩ else if x.k = 3 then (if x.n = 0 then ⟨#[70, 65, 76, 83, 69]⟩ else ⟨#[84, 82, 85, 69]⟩) else x.s
def textF (s : ByteArray) : VV := if (200 : Int) < s.size then eV 1 else ⟨2, 0, s⟩
theorem valright2_c {X : VOuter} (hX : X 53 = none) (k n : Int) (s : ByteArray) {S : VH} {K : VCont} : Vcallee Tryd.prog X 53 [.agg ⟨[.int .i64 k, .int .i64 n, .string s]⟩] S K = K (.bool (rightF ⟨k, n, s⟩)) [] S [] false := Vcallee_of (valright_p hX k n s) rfl rfl rfl
theorem kinds_of {x : VV} (h : rightF x = true) (h4 : x.k ≠ 4) : x.k = 0 ∨ x.k = 1 ∨ x.k = 2 ∨ (x.k = 3 ∧ (x.n = 0 ∨ x.n = 1)) := by
  unfold rightF at h
  by_cases h0 : x.k = 0
  · exact .inl h0
  · by_cases h1 : x.k = 1
    · exact .inr (.inl h1)
    · by_cases h2 : x.k = 2
      · exact .inr (.inr (.inl h2))
      · by_cases h3 : x.k = 3
        · rw [if_neg h0, if_neg h1, if_neg h2, if_pos h3] at h
          simp only [Bool.and_eq_true, Bool.or_eq_true, decide_eq_true_eq] at h
          exact .inr (.inr (.inr ⟨h3, h.1⟩))
        · rw [if_neg h0, if_neg h1, if_neg h2, if_neg h3, if_neg h4] at h
          cases h
theorem show_p {X : VOuter} (h : AOff X) (hX : X 105 = none) (hit : ∀ n : Int, -9223372036854775808 ≤ n ∧ n ≤ 9223372036854775807 → ∀ S K, Vcallee Tryd.prog X 62 [.int .i64 n] S K = K (.string ⟨(Lib.itoa n).toArray⟩) [] S [] false)
    (k n : Int) (s : ByteArray) (hr : rightF ⟨k, n, s⟩ = true) (h4 : k ≠ 4) (hn : -9223372036854775808 ≤ n ∧ n ≤ 9223372036854775807) : Vp Tryd.prog X 105 [.agg ⟨[.int .i64 k, .int .i64 n, .string s]⟩] (.string (showF ⟨k, n, s⟩)) := by
  unfold Vp
  refine Vf_text hX Tryd.func105 rfl (by kernel_rfl) (by show 1 ≤ _; decide) ?_
  have hi := hit n hn
  rcases kinds_of hr h4 with h | h | h | ⟨h, h' | h'⟩ <;> simp only at h <;> subst h
  · simp -dsimp only [↓Hold_5, ↓VWP_seq, ↓VWP_region, ↓VWP_cond, ↓VWP_ret, ↓VWP_skip, ↓VWP_block, ↓VReg_one, ↓VReg_nil, ↓VS_guard, ↓VS_move, ↓VS_assign, ↓VS_pick, ↓VS_load, ↓VS_binOp, ↓VS_unOp, ↓VS_fieldAddr, ↓VS_box, ↓With_guard, ↓Hold_1, With_some, emap_nil, ↓eget_eset, ↓ae_tmp, ↓ae_int, ↓ae_bool, ↓ae_string, eget_zero, lop_pick, lop_not, asBool_bool, asGuard_bool, bb_ft, ayielded_eq, ↓dstAt_zero, ↓dstAt_succ, ↓vfinish_ret, ↓vres_nil, ↓vres_tmp, vtell_eq, ret1, Option.map_some, Option.bind_some, ↓reduceIte, Nat.reduceEqDiff, Bool.false_eq_true, decide_false, Bool.not_true, Bool.not_false, List.getElem?_cons_zero, List.getElem?_cons_succ, Nat.zero_add, Nat.add_zero, Nat.reduceAdd, Nat.reduceLeDiff, true_and, List.map_cons, List.map_nil, List.all_cons, List.all_nil, tup_int, tup_str, tup_agg, cel_agg, List.drop_zero, List.toList_toArray, List.length_cons, List.length_nil, mapOwn_string, toksL_nil, toksL_cons, toks_int, toks_string, okv_int, okv_string, List.all_nil, List.all_cons, List.append_nil, List.nil_append, List.map_nil, List.map_cons, Bool.and_self, Bool.not_true, Bool.not_false, beq_self_eq_true, vnext_mk, vpush_mk, vget_nil, cellsIn_mk, vthaw_nil, vwrites_nil, List.getD_cons_zero, List.length_cons, List.length_nil, List.drop_zero, List.take_succ_cons, List.take_zero, vbin_int, ↓vbox_free, cellsOk_free, cellF, abin_eql, beq_self_eq_true, decide_false, beq_self_eq_true, bb_ft, ibeq, Int.reduceEq, vld48, vld3, vld9, vfp48_0, vfp48_2, ↓vfk53, Tryd.results105, ↓valright2_c (AOff.right ‹AOff X›), hr]
    simp [showF]
  · simp -dsimp only [↓Hold_5, ↓VWP_seq, ↓VWP_region, ↓VWP_cond, ↓VWP_ret, ↓VWP_block, ↓VReg_one, ↓VReg_nil, ↓VS_assign, ↓VS_load, ↓VS_binOp, ↓VS_unOp, ↓VS_fieldAddr, ↓VS_box, ↓With_guard, ↓Hold_1, With_some, emap_nil, ↓eget_eset, ↓ae_tmp, ↓ae_int, ↓ae_string, eget_zero, lop_not, asBool_bool, ↓vfinish_ret, ↓vres_nil, ↓vres_tmp, vtell_eq, ret1, Option.map_some, Option.bind_some, ↓reduceIte, Nat.reduceEqDiff, Bool.false_eq_true, Bool.not_true, Bool.not_false, List.getElem?_cons_zero, List.getElem?_cons_succ, Nat.zero_add, Nat.add_zero, Nat.reduceAdd, Nat.reduceLeDiff, true_and, List.map_cons, List.map_nil, List.all_cons, List.all_nil, tup_int, tup_str, tup_agg, cel_agg, List.drop_zero, List.toList_toArray, List.length_cons, List.length_nil, mapOwn_string, toksL_nil, toksL_cons, toks_int, toks_string, okv_int, okv_string, List.all_nil, List.all_cons, List.append_nil, List.nil_append, List.map_nil, List.map_cons, Bool.and_self, Bool.not_true, Bool.not_false, beq_self_eq_true, vnext_mk, vpush_mk, vget_nil, cellsIn_mk, vthaw_nil, vwrites_nil, List.getD_cons_zero, List.length_cons, List.length_nil, List.drop_zero, List.take_succ_cons, List.take_zero, vbin_int, ↓vbox_free, cellsOk_free, cellF, abin_eql, beq_self_eq_true, beq_self_eq_true, vld48, vld3, vfp48_0, vfp48_1, ↓vfk53, ↓vfk62, Tryd.results105, ↓valright2_c (AOff.right ‹AOff X›), hr, ↓hi]
    simp [showF]
  · simp -dsimp only [↓Hold_5, ↓VWP_seq, ↓VWP_region, ↓VWP_cond, ↓VWP_ret, ↓VWP_skip, ↓VWP_block, ↓VReg_one, ↓VReg_nil, ↓VS_guard, ↓VS_move, ↓VS_assign, ↓VS_pick, ↓VS_load, ↓VS_binOp, ↓VS_unOp, ↓VS_fieldAddr, ↓VS_box, ↓With_guard, ↓Hold_1, With_some, emap_nil, ↓eget_eset, ↓ae_tmp, ↓ae_int, ↓ae_bool, ↓ae_string, eget_zero, lop_pick, lop_not, asBool_bool, asGuard_bool, bb_ft, ayielded_eq, ↓dstAt_zero, ↓dstAt_succ, ↓vfinish_ret, ↓vres_nil, ↓vres_tmp, vtell_eq, ret1, Option.map_some, Option.bind_some, ↓reduceIte, Nat.reduceEqDiff, Bool.false_eq_true, decide_false, Bool.not_true, Bool.not_false, List.getElem?_cons_zero, List.getElem?_cons_succ, Nat.zero_add, Nat.add_zero, Nat.reduceAdd, Nat.reduceLeDiff, true_and, List.map_cons, List.map_nil, List.all_cons, List.all_nil, tup_int, tup_str, tup_agg, cel_agg, List.drop_zero, List.toList_toArray, List.length_cons, List.length_nil, mapOwn_string, toksL_nil, toksL_cons, toks_int, toks_string, okv_int, okv_string, List.all_nil, List.all_cons, List.append_nil, List.nil_append, List.map_nil, List.map_cons, Bool.and_self, Bool.not_true, Bool.not_false, beq_self_eq_true, vnext_mk, vpush_mk, vget_nil, cellsIn_mk, vthaw_nil, vwrites_nil, List.getD_cons_zero, List.length_cons, List.length_nil, List.drop_zero, List.take_succ_cons, List.take_zero, vbin_int, ↓vbox_free, cellsOk_free, cellF, abin_eql, beq_self_eq_true, decide_false, beq_self_eq_true, bb_ft, ibeq, Int.reduceEq, vld48, vld3, vld9, vfp48_0, vfp48_2, ↓vfk53, Tryd.results105, ↓valright2_c (AOff.right ‹AOff X›), hr]
    simp [showF]
  · simp only at h'
    subst h'
    simp -dsimp only [↓Hold_5, ↓VWP_seq, ↓VWP_region, ↓VWP_cond, ↓VWP_ret, ↓VWP_block, ↓VReg_one, ↓VReg_nil, ↓VS_guard, ↓VS_move, ↓VS_assign, ↓VS_pick, ↓VS_load, ↓VS_binOp, ↓VS_unOp, ↓VS_fieldAddr, ↓VS_box, ↓With_guard, ↓Hold_1, With_some, emap_nil, ↓eget_eset, ↓ae_tmp, ↓ae_int, ↓ae_string, eget_zero, lop_pick, lop_not, asBool_bool, asGuard_bool, ayielded_eq, ↓dstAt_zero, ↓dstAt_succ, ↓vfinish_ret, ↓vres_nil, ↓vres_tmp, vtell_eq, ret1, Option.map_some, Option.bind_some, ↓reduceIte, Nat.reduceEqDiff, Bool.false_eq_true, decide_false, Bool.not_true, Bool.not_false, List.getElem?_cons_zero, List.getElem?_cons_succ, Nat.zero_add, Nat.add_zero, Nat.reduceAdd, Nat.reduceLeDiff, true_and, List.map_cons, List.map_nil, List.all_cons, List.all_nil, tup_int, tup_str, tup_agg, cel_agg, List.drop_zero, List.toList_toArray, List.length_cons, List.length_nil, mapOwn_string, toksL_nil, toksL_cons, toks_int, toks_string, okv_int, okv_string, List.all_nil, List.all_cons, List.append_nil, List.nil_append, List.map_nil, List.map_cons, Bool.and_self, Bool.not_true, Bool.not_false, beq_self_eq_true, vnext_mk, vpush_mk, vget_nil, cellsIn_mk, vthaw_nil, vwrites_nil, List.getD_cons_zero, List.length_cons, List.length_nil, List.drop_zero, List.take_succ_cons, List.take_zero, vbin_int, ↓vbox_free, cellsOk_free, cellF, abin_eql, beq_self_eq_true, decide_false, beq_self_eq_true, ibeq, Int.reduceEq, vld48, vld3, vfp48_0, vfp48_1, ↓vfk53, Tryd.results105, ↓valright2_c (AOff.right ‹AOff X›), hr]
    simp [showF]
  · simp only at h'
    subst h'
    simp -dsimp only [↓Hold_5, ↓VWP_seq, ↓VWP_region, ↓VWP_cond, ↓VWP_ret, ↓VWP_block, ↓VReg_one, ↓VReg_nil, ↓VS_guard, ↓VS_move, ↓VS_assign, ↓VS_pick, ↓VS_load, ↓VS_binOp, ↓VS_unOp, ↓VS_fieldAddr, ↓VS_box, ↓With_guard, ↓Hold_1, With_some, emap_nil, ↓eget_eset, ↓ae_tmp, ↓ae_int, ↓ae_string, eget_zero, lop_pick, lop_not, asBool_bool, asGuard_bool, ayielded_eq, ↓dstAt_zero, ↓dstAt_succ, ↓vfinish_ret, ↓vres_nil, ↓vres_tmp, vtell_eq, ret1, Option.map_some, Option.bind_some, ↓reduceIte, Nat.reduceEqDiff, Bool.false_eq_true, decide_false, Bool.not_true, Bool.not_false, List.getElem?_cons_zero, List.getElem?_cons_succ, Nat.zero_add, Nat.add_zero, Nat.reduceAdd, Nat.reduceLeDiff, true_and, List.map_cons, List.map_nil, List.all_cons, List.all_nil, tup_int, tup_str, tup_agg, cel_agg, List.drop_zero, List.toList_toArray, List.length_cons, List.length_nil, mapOwn_string, toksL_nil, toksL_cons, toks_int, toks_string, okv_int, okv_string, List.all_nil, List.all_cons, List.append_nil, List.nil_append, List.map_nil, List.map_cons, Bool.and_self, Bool.not_true, Bool.not_false, beq_self_eq_true, vnext_mk, vpush_mk, vget_nil, cellsIn_mk, vthaw_nil, vwrites_nil, List.getD_cons_zero, List.length_cons, List.length_nil, List.drop_zero, List.take_succ_cons, List.take_zero, vbin_int, ↓vbox_free, cellsOk_free, cellF, abin_eql, beq_self_eq_true, decide_false, beq_self_eq_true, ibeq, Int.reduceEq, vld48, vld3, vfp48_0, vfp48_1, ↓vfk53, Tryd.results105, ↓valright2_c (AOff.right ‹AOff X›), hr]
    simp [showF]
theorem textg_p {X : VOuter} (h : AOff X) (hX : X 145 = none) (s : ByteArray) : Vp Tryd.prog X 145 [.string s] (textF s).v := by
  unfold Vp
  refine Vf_text hX Tryd.func145 rfl (by kernel_rfl) (by show 1 ≤ _; decide) ?_
  by_cases hs : (200 : Int) < s.size
  · simp -dsimp only [↓Hold_5, ↓VWP_seq, ↓VWP_region, ↓VWP_cond, ↓VWP_ret, ↓VReg_one, ↓VReg_non, ↓VReg_nil, ↓VS_move, ↓VS_binOp, ↓VS_len, ↓VS_store, ↓With_bindH, ↓With_guard, ↓Hold_1, With_some, emap_nil, ↓eget_eset, ↓ae_tmp, ↓ae_int, eget_zero, asBool_bool, ↓vfinish_ret, ↓vres_nil, ↓vres_cell, vtell_eq, ret1, Option.map_some, ↓reduceIte, Nat.reduceEqDiff, reduceCtorEq, decide_true, decide_false, Bool.not_false, Nat.zero_add, Nat.add_zero, Nat.reduceAdd, Nat.reduceLT, Nat.reduceLeDiff, true_and, and_self, List.map_cons, List.map_nil, List.all_cons, List.all_nil, tup_int, tup_str, tup_agg, cel_agg, List.drop_zero, List.toList_toArray, List.size_toArray, List.length_cons, List.length_nil, mapOwn_agg, mapOwn_int, mapOwn_string, toksL_nil, toksL_cons, toks_int, toks_string, toks_agg, okv_agg, okv_int, okv_string, List.flatMap_nil, List.flatMap_cons, List.all_nil, List.all_cons, List.append_nil, List.nil_append, List.map_nil, List.map_cons, Bool.and_self, Bool.not_false, beq_self_eq_true, vnext_mk, vpush_mk, vget_nil, vput_nil, cellsIn_mk, vthaw_nil, vwrites_nil, List.getD_cons_zero, List.set_cons_zero, List.length_cons, List.length_nil, List.drop_zero, List.take_succ_cons, List.take_zero, vbin_int, ↓vlay_free, cellsOk_free, cellF, abin_gtr, beq_self_eq_true, gt_iff_lt, decide_true, decide_false, beq_self_eq_true, setAll_whole, vld48, vst48, ↓val48, vlr9, ↓vfk51, Tryd.results145, hs, ↓err_c h.err]
    simp [textF, hs, eV, VV.v]
  · simp -dsimp only [↓VWP_seq, ↓VWP_region, ↓VWP_cond, ↓VWP_ret, ↓VWP_skip, ↓VReg_one, ↓VReg_non, ↓VReg_nil, ↓VS_move, ↓VS_build, ↓VS_binOp, ↓VS_len, ↓VS_store, ↓With_bindH, ↓With_guard, ↓Hold_1, With_some, emap_nil, ↓eget_eset, ↓ae_tmp, ↓ae_int, eget_zero, asBool_bool, ↓vfinish_ret, ↓vres_nil, ↓vres_cell, vtell_eq, ret1, Option.map_some, Option.bind_some, ↓reduceIte, Nat.reduceEqDiff, reduceCtorEq, Bool.false_eq_true, decide_false, Bool.not_false, Nat.zero_add, Nat.add_zero, Nat.reduceAdd, Nat.reduceLT, Nat.reduceLeDiff, true_and, and_self, List.map_cons, List.map_nil, List.all_cons, List.all_nil, tup_int, cel_int, tup_str, cel_str, tup_agg, cel_agg, List.drop_zero, List.toList_toArray, List.size_toArray, List.length_cons, List.length_nil, mapOwn_agg, mapOwn_int, mapOwn_string, toksL_nil, toksL_cons, toks_int, toks_string, toks_agg, okv_agg, okv_int, okv_string, List.flatMap_nil, List.flatMap_cons, List.all_nil, List.all_cons, List.append_nil, List.nil_append, List.map_nil, List.map_cons, Bool.and_self, Bool.not_false, beq_self_eq_true, vnext_mk, vpush_mk, vget_nil, vput_nil, cellsIn_mk, vthaw_nil, vwrites_nil, List.getD_cons_zero, List.set_cons_zero, List.set_cons_succ, List.length_cons, List.length_nil, List.drop_zero, List.take_succ_cons, List.take_zero, vbin_int, ↓vlay_free, cellsOk_free, cellF, abin_gtr, beq_self_eq_true, gt_iff_lt, decide_false, beq_self_eq_true, setAll_whole, afill, setAll, vld48, vst48, ↓val48, bd48, pl48_0, pl48_2, vlr9, Tryd.results145, hs]
    simp [textF, hs, VV.v]
end Go.Proofs.YtmdpggecelheoaaDoor.Abs
/- The library's contracts at this program, printed by the shelf's own tool in plain words. -/
namespace Go.Proofs
open Go.Shelf
def Tryd.laysM171_ren : Go.Shelf.Ren := ⟨fun | 171 => 62 | 243 => 81 | 246 => 143 | 283 => 166 | 284 => 167 | 285 => 168 | 286 => 169 | 129 => 179 | 317 => 178 | 318 => 180 | 319 => 181 | 320 => 182 | 337 => 184 | 338 => 185 | n => n, fun | 3 => 3 | 9 => 9 | 2 => 2 | 4 => 4 | 171 => 163 | 0 => 0 | 53 => 110 | 37 => 129 | 5 => 5 | 173 => 166 | 212 => 177 | 51 => 154 | 20 => 20 | 213 => 178 | 46 => 127 | 232 => 183 | 233 => 184 | n => n, fun | 17 => 3 | 18 => 4 | 19 => 5 | n => n⟩
theorem Tryd.laysM171 : Go.Proofs.LaysM.n171 Tryd.prog Tryd.laysM171_ren := {
  mixed := by kernel_rfl
  f129 := Tryd.func179.trans (congrArg some (by kernel_rfl))
  f171 := Tryd.func62.trans (congrArg some (by kernel_rfl))
  f243 := Tryd.func81.trans (congrArg some (by kernel_rfl))
  f246 := Tryd.func143.trans (congrArg some (by kernel_rfl))
  f283 := Tryd.func166.trans (congrArg some (by kernel_rfl))
  f284 := Tryd.func167.trans (congrArg some (by kernel_rfl))
  f285 := Tryd.func168.trans (congrArg some (by kernel_rfl))
  f286 := Tryd.func169.trans (congrArg some (by kernel_rfl))
  f317 := Tryd.func178.trans (congrArg some (by kernel_rfl))
  f318 := Tryd.func180.trans (congrArg some (by kernel_rfl))
  f319 := Tryd.func181.trans (congrArg some (by kernel_rfl))
  f320 := Tryd.func182.trans (congrArg some (by kernel_rfl))
  f337 := Tryd.func184.trans (congrArg some (by kernel_rfl))
  f338 := Tryd.func185.trans (congrArg some (by kernel_rfl))
  t0 := Tryd.underlying0
  a0 := Tryd.isAgg0
  z0 := Tryd.sizeOf0
  v0 := Tryd.zeroValue0
  t2 := Tryd.underlying2
  a2 := Tryd.isAgg2
  z2 := Tryd.sizeOf2
  v2 := Tryd.zeroValue2
  t3 := Tryd.underlying3
  a3 := Tryd.isAgg3
  z3 := Tryd.sizeOf3
  v3 := Tryd.zeroValue3
  t4 := Tryd.underlying4
  a4 := Tryd.isAgg4
  z4 := Tryd.sizeOf4
  v4 := Tryd.zeroValue4
  t5 := Tryd.underlying5
  a5 := Tryd.isAgg5
  z5 := Tryd.sizeOf5
  v5 := Tryd.zeroValue5
  t9 := Tryd.underlying9
  a9 := Tryd.isAgg9
  z9 := Tryd.sizeOf9
  v9 := Tryd.zeroValue9
  t20 := Tryd.underlying20
  a20 := Tryd.isAgg20
  z20 := Tryd.sizeOf20
  v20 := Tryd.zeroValue20
  t37 := Tryd.underlying129
  a37 := Tryd.isAgg129
  z37 := Tryd.sizeOf129
  v37 := Tryd.zeroValue129
  t46 := Tryd.underlying127
  a46 := Tryd.isAgg127
  z46 := Tryd.sizeOf127
  v46 := Tryd.zeroValue127
  t51 := Tryd.underlying154
  a51 := Tryd.isAgg154
  z51 := Tryd.sizeOf154
  v51 := Tryd.zeroValue154
  t53 := Tryd.underlying110
  a53 := Tryd.isAgg110
  z53 := Tryd.sizeOf110
  v53 := Tryd.zeroValue110
  t171 := Tryd.underlying163
  a171 := Tryd.isAgg163
  z171 := Tryd.sizeOf163
  v171 := Tryd.zeroValue163
  t173 := Tryd.underlying166
  a173 := Tryd.isAgg166
  z173 := Tryd.sizeOf166
  v173 := Tryd.zeroValue166
  t212 := Tryd.underlying177
  a212 := Tryd.isAgg177
  z212 := Tryd.sizeOf177
  v212 := Tryd.zeroValue177
  t213 := Tryd.underlying178
  a213 := Tryd.isAgg178
  z213 := Tryd.sizeOf178
  t232 := Tryd.underlying183
  a232 := Tryd.isAgg183
  z232 := Tryd.sizeOf183
  v232 := Tryd.zeroValue183
  t233 := Tryd.underlying184
  a233 := Tryd.isAgg184
  z233 := Tryd.sizeOf184
  v233 := Tryd.zeroValue184
  g17 := by kernel_rfl
  g18 := by kernel_rfl
  g19 := by kernel_rfl
  i0 := by kernel_rfl
  i2 := by kernel_rfl
  i3 := by kernel_rfl
  i4 := by kernel_rfl
  i5 := by kernel_rfl
  i9 := by kernel_rfl
  i20 := by kernel_rfl
  i37 := by kernel_rfl
  i46 := by kernel_rfl
  i51 := by kernel_rfl
  i53 := by kernel_rfl
  i171 := by kernel_rfl
  i173 := by kernel_rfl
  i212 := by kernel_rfl
  i232 := by kernel_rfl
  i233 := by kernel_rfl
  m17 := by kernel_rfl
  m18 := by kernel_rfl
  m19 := by kernel_rfl }
def Tryd.laysC172_ren : Go.Shelf.Ren := ⟨fun | 172 => 60 | 244 => 79 | 245 => 80 | 247 => 138 | 279 => 139 | 280 => 140 | 281 => 141 | 282 => 142 | 287 => 163 | 316 => 164 | 171 => 62 | 205 => 165 | 321 => 176 | 322 => 177 | 243 => 81 | 246 => 143 | 283 => 166 | 284 => 167 | 285 => 168 | 286 => 169 | 129 => 179 | 317 => 178 | 318 => 180 | 319 => 181 | 320 => 182 | 337 => 184 | 338 => 185 | n => n, fun | 9 => 9 | 3 => 3 | 75 => 91 | 76 => 92 | 4 => 4 | 5 => 5 | 167 => 128 | 37 => 129 | 0 => 0 | 85 => 130 | 2 => 2 | 168 => 132 | 53 => 110 | 175 => 157 | 46 => 127 | 210 => 161 | 127 => 170 | 145 => 175 | 143 => 173 | 21 => 21 | 171 => 163 | 173 => 166 | 212 => 177 | 51 => 154 | 20 => 20 | 213 => 178 | 232 => 183 | 233 => 184 | 80 => 107 | n => n, fun | 15 => 1 | 16 => 2 | 17 => 3 | 18 => 4 | 19 => 5 | n => n⟩
theorem Tryd.laysC172 : Go.Proofs.LaysC.n172 Tryd.prog Tryd.laysC172_ren := {
  mixed := by kernel_rfl
  f129 := Tryd.func179.trans (congrArg some (by kernel_rfl))
  f171 := Tryd.func62.trans (congrArg some (by kernel_rfl))
  f172 := Tryd.func60.trans (congrArg some (by kernel_rfl))
  f205 := Tryd.func165.trans (congrArg some (by kernel_rfl))
  f243 := Tryd.func81.trans (congrArg some (by kernel_rfl))
  f244 := Tryd.func79.trans (congrArg some (by kernel_rfl))
  f245 := Tryd.func80.trans (congrArg some (by kernel_rfl))
  f246 := Tryd.func143.trans (congrArg some (by kernel_rfl))
  f247 := Tryd.func138.trans (congrArg some (by kernel_rfl))
  f279 := Tryd.func139.trans (congrArg some (by kernel_rfl))
  f280 := Tryd.func140.trans (congrArg some (by kernel_rfl))
  f281 := Tryd.func141.trans (congrArg some (by kernel_rfl))
  f282 := Tryd.func142.trans (congrArg some (by kernel_rfl))
  f283 := Tryd.func166.trans (congrArg some (by kernel_rfl))
  f284 := Tryd.func167.trans (congrArg some (by kernel_rfl))
  f285 := Tryd.func168.trans (congrArg some (by kernel_rfl))
  f286 := Tryd.func169.trans (congrArg some (by kernel_rfl))
  f287 := Tryd.func163.trans (congrArg some (by kernel_rfl))
  f316 := Tryd.func164.trans (congrArg some (by kernel_rfl))
  f317 := Tryd.func178.trans (congrArg some (by kernel_rfl))
  f318 := Tryd.func180.trans (congrArg some (by kernel_rfl))
  f319 := Tryd.func181.trans (congrArg some (by kernel_rfl))
  f320 := Tryd.func182.trans (congrArg some (by kernel_rfl))
  f321 := Tryd.func176.trans (congrArg some (by kernel_rfl))
  f322 := Tryd.func177.trans (congrArg some (by kernel_rfl))
  f337 := Tryd.func184.trans (congrArg some (by kernel_rfl))
  f338 := Tryd.func185.trans (congrArg some (by kernel_rfl))
  t0 := Tryd.underlying0
  a0 := Tryd.isAgg0
  z0 := Tryd.sizeOf0
  v0 := Tryd.zeroValue0
  t2 := Tryd.underlying2
  a2 := Tryd.isAgg2
  z2 := Tryd.sizeOf2
  v2 := Tryd.zeroValue2
  t3 := Tryd.underlying3
  a3 := Tryd.isAgg3
  z3 := Tryd.sizeOf3
  v3 := Tryd.zeroValue3
  t4 := Tryd.underlying4
  a4 := Tryd.isAgg4
  z4 := Tryd.sizeOf4
  v4 := Tryd.zeroValue4
  t5 := Tryd.underlying5
  a5 := Tryd.isAgg5
  z5 := Tryd.sizeOf5
  v5 := Tryd.zeroValue5
  t9 := Tryd.underlying9
  a9 := Tryd.isAgg9
  z9 := Tryd.sizeOf9
  v9 := Tryd.zeroValue9
  t20 := Tryd.underlying20
  a20 := Tryd.isAgg20
  z20 := Tryd.sizeOf20
  v20 := Tryd.zeroValue20
  t21 := Tryd.underlying21
  a21 := Tryd.isAgg21
  z21 := Tryd.sizeOf21
  v21 := Tryd.zeroValue21
  t37 := Tryd.underlying129
  a37 := Tryd.isAgg129
  z37 := Tryd.sizeOf129
  v37 := Tryd.zeroValue129
  t46 := Tryd.underlying127
  a46 := Tryd.isAgg127
  z46 := Tryd.sizeOf127
  v46 := Tryd.zeroValue127
  t51 := Tryd.underlying154
  a51 := Tryd.isAgg154
  z51 := Tryd.sizeOf154
  v51 := Tryd.zeroValue154
  t53 := Tryd.underlying110
  a53 := Tryd.isAgg110
  z53 := Tryd.sizeOf110
  v53 := Tryd.zeroValue110
  t75 := Tryd.underlying91
  a75 := Tryd.isAgg91
  z75 := Tryd.sizeOf91
  v75 := Tryd.zeroValue91
  t76 := Tryd.underlying92
  a76 := Tryd.isAgg92
  z76 := Tryd.sizeOf92
  v76 := Tryd.zeroValue92
  t85 := Tryd.underlying130
  a85 := Tryd.isAgg130
  z85 := Tryd.sizeOf130
  v85 := Tryd.zeroValue130
  t127 := Tryd.underlying170
  a127 := Tryd.isAgg170
  z127 := Tryd.sizeOf170
  v127 := Tryd.zeroValue170
  t143 := Tryd.underlying173
  a143 := Tryd.isAgg173
  z143 := Tryd.sizeOf173
  v143 := Tryd.zeroValue173
  t145 := Tryd.underlying175
  a145 := Tryd.isAgg175
  z145 := Tryd.sizeOf175
  v145 := Tryd.zeroValue175
  t167 := Tryd.underlying128
  a167 := Tryd.isAgg128
  z167 := Tryd.sizeOf128
  v167 := Tryd.zeroValue128
  t168 := Tryd.underlying132
  a168 := Tryd.isAgg132
  z168 := Tryd.sizeOf132
  v168 := Tryd.zeroValue132
  t171 := Tryd.underlying163
  a171 := Tryd.isAgg163
  z171 := Tryd.sizeOf163
  v171 := Tryd.zeroValue163
  t173 := Tryd.underlying166
  a173 := Tryd.isAgg166
  z173 := Tryd.sizeOf166
  v173 := Tryd.zeroValue166
  t175 := Tryd.underlying157
  a175 := Tryd.isAgg157
  z175 := Tryd.sizeOf157
  v175 := Tryd.zeroValue157
  t210 := Tryd.underlying161
  a210 := Tryd.isAgg161
  z210 := Tryd.sizeOf161
  v210 := Tryd.zeroValue161
  t212 := Tryd.underlying177
  a212 := Tryd.isAgg177
  z212 := Tryd.sizeOf177
  v212 := Tryd.zeroValue177
  t213 := Tryd.underlying178
  a213 := Tryd.isAgg178
  z213 := Tryd.sizeOf178
  t232 := Tryd.underlying183
  a232 := Tryd.isAgg183
  z232 := Tryd.sizeOf183
  v232 := Tryd.zeroValue183
  t233 := Tryd.underlying184
  a233 := Tryd.isAgg184
  z233 := Tryd.sizeOf184
  v233 := Tryd.zeroValue184
  g15 := by kernel_rfl
  g16 := by kernel_rfl
  g17 := by kernel_rfl
  g18 := by kernel_rfl
  g19 := by kernel_rfl
  t80 := Tryd.underlying107
  a80 := Tryd.isAgg107
  z80 := Tryd.sizeOf107
  v80 := Tryd.zeroValue107
  i0 := by kernel_rfl
  i2 := by kernel_rfl
  i3 := by kernel_rfl
  i4 := by kernel_rfl
  i5 := by kernel_rfl
  i9 := by kernel_rfl
  i20 := by kernel_rfl
  i21 := by kernel_rfl
  i37 := by kernel_rfl
  i46 := by kernel_rfl
  i51 := by kernel_rfl
  i53 := by kernel_rfl
  i75 := by kernel_rfl
  i76 := by kernel_rfl
  i80 := by kernel_rfl
  i85 := by kernel_rfl
  i127 := by kernel_rfl
  i143 := by kernel_rfl
  i145 := by kernel_rfl
  i167 := by kernel_rfl
  i168 := by kernel_rfl
  i171 := by kernel_rfl
  i173 := by kernel_rfl
  i175 := by kernel_rfl
  i210 := by kernel_rfl
  i212 := by kernel_rfl
  i232 := by kernel_rfl
  i233 := by kernel_rfl
  m15 := by kernel_rfl
  m16 := by kernel_rfl
  m17 := by kernel_rfl
  m18 := by kernel_rfl
  m19 := by kernel_rfl
  c0 := by kernel_rfl
  c2 := by kernel_rfl
  c3 := by kernel_rfl
  c4 := by kernel_rfl
  c5 := by kernel_rfl
  c9 := by kernel_rfl
  c20 := by kernel_rfl
  c21 := by kernel_rfl
  c37 := by kernel_rfl
  c46 := by kernel_rfl
  c51 := by kernel_rfl
  c53 := by kernel_rfl
  c75 := by kernel_rfl
  c76 := by kernel_rfl
  c80 := by kernel_rfl
  c85 := by kernel_rfl
  c127 := by kernel_rfl
  c143 := by kernel_rfl
  c145 := by kernel_rfl
  c167 := by kernel_rfl
  c168 := by kernel_rfl
  c171 := by kernel_rfl
  c173 := by kernel_rfl
  c175 := by kernel_rfl
  c210 := by kernel_rfl
  c212 := by kernel_rfl
  c213 := by kernel_rfl
  c232 := by kernel_rfl
  c233 := by kernel_rfl }
def Tryd.lays145_ren : Go.Shelf.Ren := ⟨fun | 145 => 39 | 220 => 59 | 219 => 78 | 217 => 134 | 225 => 135 | 224 => 136 | 267 => 137 | 266 => 161 | 314 => 162 | n => n, fun | 9 => 9 | 4 => 4 | 59 => 65 | 3 => 3 | 5 => 5 | 46 => 127 | 146 => 155 | 51 => 154 | n => n, fun | 1 => 0 | n => n⟩
theorem Tryd.lays145 : Go.Proofs.Lays.n145 Tryd.prog Tryd.lays145_ren := {
  mixed := by kernel_rfl
  f145 := Tryd.func39.trans (congrArg some (by kernel_rfl))
  f217 := Tryd.func134.trans (congrArg some (by kernel_rfl))
  f219 := Tryd.func78.trans (congrArg some (by kernel_rfl))
  f220 := Tryd.func59.trans (congrArg some (by kernel_rfl))
  f224 := Tryd.func136.trans (congrArg some (by kernel_rfl))
  f225 := Tryd.func135.trans (congrArg some (by kernel_rfl))
  f266 := Tryd.func161.trans (congrArg some (by kernel_rfl))
  f267 := Tryd.func137.trans (congrArg some (by kernel_rfl))
  f314 := Tryd.func162.trans (congrArg some (by kernel_rfl))
  t3 := Tryd.underlying3
  a3 := Tryd.isAgg3
  z3 := Tryd.sizeOf3
  v3 := Tryd.zeroValue3
  t4 := Tryd.underlying4
  a4 := Tryd.isAgg4
  z4 := Tryd.sizeOf4
  v4 := Tryd.zeroValue4
  t5 := Tryd.underlying5
  a5 := Tryd.isAgg5
  z5 := Tryd.sizeOf5
  v5 := Tryd.zeroValue5
  t9 := Tryd.underlying9
  a9 := Tryd.isAgg9
  z9 := Tryd.sizeOf9
  v9 := Tryd.zeroValue9
  t46 := Tryd.underlying127
  a46 := Tryd.isAgg127
  z46 := Tryd.sizeOf127
  v46 := Tryd.zeroValue127
  t51 := Tryd.underlying154
  a51 := Tryd.isAgg154
  z51 := Tryd.sizeOf154
  v51 := Tryd.zeroValue154
  t59 := Tryd.underlying65
  a59 := Tryd.isAgg65
  z59 := Tryd.sizeOf65
  v59 := Tryd.zeroValue65
  t146 := Tryd.underlying155
  a146 := Tryd.isAgg155
  z146 := Tryd.sizeOf155
  v146 := Tryd.zeroValue155
  g1 := by kernel_rfl }
open Go.RowKit Go.Sort Go.Lib in
/-- strconv.Itoa: "Itoa is equivalent to FormatInt(int64(i), 10).": i's DECIMAL NUMERAL ('Lib.itoa': a '-' where i is negative, then the digits), FOR EVERY int. The world behind the call: the world before it, new blocks behind the heap (the library's 'var a [24]byte'), draws. (LAID: no walk: one application.) -/
theorem Tryd.strconv_Itoa (n : Int) (h0 : -9223372036854775808 ≤ n) (h1 : n ≤ 9223372036854775807) (w : World) (htab : Lib.TabIs Tryd.prog w "internal/strconv.uint64pow10" .u64 Lib.pow10Tab) :
    Calls Tryd.prog 62 #[.int .i64 n] w fun e w' => e = .returned (.string ⟨(Lib.itoa n).toArray⟩) ∧ ∃ k os, w' = grow (w.drewN k) os := Any.strconv_Itoa Tryd.laysM171 n h0 h1 w htab
open Go.RowKit in
/-- strconv.Atoi, AT EVERY STRING THAT SPELLS AN int ('Lib.atoiAll .. = .ok v'; of whatever length: leading zeros count): v, AND NO ERROR. The world: as it was, or with the one new row that '[]byte(..)' lays. (LAID: no walk: one application.) -/
theorem Tryd.strconv_Atoi_ok (s : ByteArray) (hmax : s.size ≤ 9223372036854775806) (v : Int) (h : Lib.atoiAll s.data.toList = .ok v) (w : World) :
    Calls Tryd.prog 60 #[.string s] w fun e w' => e = .returned (.tuple #[.int .i64 v, .nilIface]) ∧ (w' = w ∨ ∃ t, w' = Lib.bytesWorld w 5 t) := Any.strconv_Atoi_ok Tryd.laysC172 s hmax v h w
open Go.RowKit in
theorem Tryd.strconv_Atoi_syntax_var (s : ByteArray) (hlim : s.size ≤ 281474976710656) (h : Lib.atoiAll s.data.toList = Lib.atoiAll []) (tp : TypeId) (p : Value) (w : World) (hvar : w.var? Tryd.prog "strconv.ErrSyntax" = some #[.iface tp p]) :
    Calls Tryd.prog 60 #[.string s] w fun e w' => ∃ N, e = .returned (.tuple #[.int .i64 0, .iface 132 (.pointer (some ⟨N, 0, none⟩))]) ∧ w.heap.size ≤ N ∧ w'.heap[N]? = some (.cells #[.string ⟨#[65, 116, 111, 105]⟩, .string s, .iface tp p] 161 (0, 0)) ∧ Below w.heap.size w w' := Any.strconv_Atoi_syntax_var Tryd.laysC172 s hlim h tp p w hvar
open Go.RowKit in
theorem Tryd.strconv_Atoi_range_var (s : ByteArray) (hlim : s.size ≤ 281474976710656) (h : Lib.atoiAll s.data.toList = .range) (tp : TypeId) (p : Value) (w : World) (hvar : w.var? Tryd.prog "strconv.ErrRange" = some #[.iface tp p]) :
    Calls Tryd.prog 60 #[.string s] w fun e w' => ∃ N, e = .returned (.tuple #[.int .i64 (Lib.atoiSat s.data.toList), .iface 132 (.pointer (some ⟨N, 0, none⟩))]) ∧ w.heap.size ≤ N ∧ w'.heap[N]? = some (.cells #[.string ⟨#[65, 116, 111, 105]⟩, .string s, .iface tp p] 161 (0, 0)) ∧ Below w.heap.size w w' := Any.strconv_Atoi_range_var Tryd.laysC172 s hlim h tp p w hvar
open Go.RowKit Go.Lib in
/-- strings.Cut: "Cut slices s around the first instance of sep, returning the text before and after sep. The found result reports whether sep appears in s. If sep does not appear in s, cut returns s, "", false.": IT RETURNS 'Lib.cut s sep'; the world is as it was but for the count of draws. (LAID: no walk: one application.) -/
theorem Tryd.strings_Cut (s sep : ByteArray) (m : Int) (w : World) (hs : s.size < 4294967281) (hm : w.cell? ⟨0, 0, none⟩ = some (.int .i64 m)) :
    Calls Tryd.prog 39 #[.string s, .string sep] w fun e w' => e = .returned (.tuple #[.string ⟨(Lib.cut s.data.toList sep.data.toList).1.toArray⟩, .string ⟨(Lib.cut s.data.toList sep.data.toList).2.1.toArray⟩, .bool (Lib.cut s.data.toList sep.data.toList).2.2]) ∧ ∃ n, w' = w.drewN n := Any.strings_Cut Tryd.lays145 s sep m w hs hm
end Go.Proofs
/- strconv.Itoa's answer, by the library's contract, from a start whose table is laid. -/
set_option linter.unusedVariables false
set_option linter.unusedSimpArgs false
namespace Go.Proofs.YtmdpggecelheoaaDoor.Abs
open Go Go.RowKit Go.Sort
/-- strconv.Itoa's answer. -/
def itoaG : List Value → Hp → Option (Value × Hp) := fun args H => match args with
  | [.int .i64 n] => if -9223372036854775808 ≤ n ∧ n ≤ 9223372036854775807 then some (.string ⟨(Lib.itoa n).toArray⟩, H) else none
  | _ => none
theorem tab_below {P : Program} {w0 w : World} {name : String} {k : IntKind} {zs : List Int} (h : Lib.TabIs P w0 name k zs) (b : Below w0.heap.size w0 w) : Lib.TabIs P w name k zs := by
  unfold Lib.TabIs World.var? at *
  cases hg : P.globalNamed name with
  | none => rw [hg] at h; simp at h
  | some g =>
    rw [hg] at h
    simp only [Option.bind_some] at h ⊢
    have hlt : g < w0.heap.size := by
      refine Decidable.byContradiction fun hn => ?_
      rw [Array.getElem?_eq_none (by omega)] at h
      simp at h
    rw [b.block g hlt]
    exact h
theorem pow10_of {W : World} {rest : List (String × DataW Unit)} (h : laidMet Tryd.prog (("internal/strconv.uint64pow10", Rows.laid_internal_strconv_uint64pow10) :: rest) W) : Lib.TabIs Tryd.prog W "internal/strconv.uint64pow10" .u64 Lib.pow10Tab :=
  Lib.tabIs_of_head (g := 3) (t := 177) (e := 110) (n := 20) (by kernel_rfl) (by kernel_rfl) Tryd.underlying177 Tryd.underlying110 (by kernel_rfl) (by kernel_rfl) h
theorem itoa_sound {B : Nat} {w0 : World} (htab : ∀ w, Below B w0 w → Lib.TabIs Tryd.prog w "internal/strconv.uint64pow10" .u64 Lib.pow10Tab) : KSound Tryd.prog B w0 fun f' args H => if f' = 62 then itoaG args H else none := by
  intro b hb f' args H v H' hr φ w args' hR ha
  simp only at hr
  split at hr
  · rename_i hff
    subst hff
    unfold itoaG at hr
    split at hr
    · rename_i n
      split at hr
      · rename_i hn
        cases hr
        have e : args' = [.int .i64 n] := flats_eq rfl ha
        subst e
        refine (Tryd.strconv_Itoa n hn.1 hn.2 w (htab w (hb ▸ hR.below))).mono ?_
        rintro e w' ⟨rfl, k, os, rfl⟩
        exact ⟨φ, _, Plan.le_refl φ, rfl, .string _, hR.grow (Lib.below_grow _ _ (Nat.le_refl _) _ _)⟩
      · cases hr
    · cases hr
  · cases hr
end Go.Proofs.YtmdpggecelheoaaDoor.Abs
/- The law FuncsShare: what is given from outside, in both forms; calls by name. -/
set_option linter.unusedVariables false
set_option linter.unusedSimpArgs false
set_option maxRecDepth 4000
set_option maxHeartbeats 0
namespace Go.Proofs.YtmdpggecelheoaaDoor.Abs
open Go Go.RowKit
/-- A pure call of flat things, over the plain heap. -/
theorem Vp_Df {P : Program} {Y : Outer} {X : VOuter} (hX : VXOk P Y X) {f : FuncId} {args : List Value} {r : Value} (h : Vp P X f args r) (H : Hp) (ha : ∀ R : Rl, RdL R args args) (hr : ∀ R u, Rd R r u → u = r) :
    Df P Y f args H fun cr H' => cr = r ∧ H.next ≤ H'.next ∧ ∀ b, b < H.next → H'.get b = H.get b := by
  obtain ⟨n, ⟨v, ws⟩, h1, rfl, rfl⟩ := h
  refine (run_ok hX n f args [] _ [] h1 ⟨[], fun _ => none, fun _ _ => True, H⟩ args ?_ (fun _ => rfl) (ha _)).mono ?_
  · exact { len := rfl, nodup := .nil, lt := fun b hb => (by cases hb), inj := fun k k' b h => (by cases h), sep := fun k b h => (by cases h), fr := fun _ _ => trivial, dom := fun i o b h => (by cases h), own := fun k b h => trivial, blk := fun i b h => (by simp at h) }
  · rintro cr H' ⟨R', rfl, hd, h3⟩
    exact ⟨hr _ _ h3, hd.nx, fun b hb => hd.fr b hb fun p hp => by cases hp⟩
attribute [local irreducible] Hold VReg Vf Vc VWP With VStp Vcallee Vp VE
noncomputable def YS : Outer := fun f => if f = 62 then some itoaG else if f = 172 then some cpG else none
theorem ys_sound {W : World} (htab : Lib.TabIs Tryd.prog W "internal/strconv.uint64pow10" .u64 Lib.pow10Tab) : XSound Tryd.prog W.heap.size W YS := by
  intro f g hg
  unfold YS at hg
  split at hg
  · rename_i hf
    subst hf
    cases hg
    exact itoa_sound fun w b => tab_below htab b
  · split at hg
    · rename_i hf
      subst hf
      cases hg
      exact cp_sound
    · cases hg
/-! ### What shows values -/
def itU : List Value → List Blk → Option (Value × List (Nat × Blk)) := fun args _ => match args with
  | [.int .i64 n] => if -9223372036854775808 ≤ n ∧ n ≤ 9223372036854775807 then some (.string ⟨(Lib.itoa n).toArray⟩, []) else none
  | _ => none
def XS0 : VOuter := fun f => if f = 62 then some itU else if f = 172 then some (fun _ _ => none) else none
theorem it_ok : ∀ args B r ws, itU args B = some (r, ws) → ∀ R cargs, HRel R B → (∀ d, R.ρ (d, none) = none) → RdL R args cargs → Df Tryd.prog YS 62 cargs R.H fun cr H' => ∃ R' : Rl, R'.H = H' ∧ Done R R' B ws ∧ Rd R' r cr := by
  intro args B r ws hr R cargs hR hf ha
  unfold itU at hr
  split at hr
  · rename_i n
    split at hr
    · rename_i hn
      cases hr
      obtain rfl := rdl_scal' _ _ ha rfl
      exact Df_ext (g := itoaG) (r := (.string ⟨(Lib.itoa n).toArray⟩, R.H)) rfl (by simp only [itoaG, if_pos hn]) ⟨R, rfl, done_more hR hf (Nat.le_refl _) fun _ _ => rfl, .string _⟩
    · cases hr
  · cases hr
theorem xs0_ok : VXOk Tryd.prog YS XS0 := by
  intro f
  by_cases h1 : f = 62
  · subst h1
    show ∀ args B r ws, itU args B = some (r, ws) → _
    exact it_ok
  · by_cases h3 : f = 172
    · subst h3
      show ∀ args B r ws, (none : Option (Value × List (Nat × Blk))) = some (r, ws) → _
      intro args B r ws hr
      cases hr
    · have e : XS0 f = none := by unfold XS0; rw [if_neg h1, if_neg h3]
      rw [e]
      show YS f = none
      unfold YS
      rw [if_neg h1, if_neg h3]
theorem xs0_a : AOff XS0 := ⟨rfl, rfl, rfl, rfl, rfl, rfl, rfl, rfl, rfl, rfl, rfl, rfl, rfl, rfl, rfl, rfl⟩
theorem it_c (n : Int) (hn : -9223372036854775808 ≤ n ∧ n ≤ 9223372036854775807) (S : VH) (K : VCont) : Vcallee Tryd.prog XS0 62 [.int .i64 n] S K = K (.string ⟨(Lib.itoa n).toArray⟩) [] S [] false := by
  refine Vcallee_of (args' := [.int .i64 n]) ?_ rfl rfl rfl
  unfold Vp
  refine Vf_outer (g := itU) rfl ?_
  have e : itU [.int .i64 n] [] = some (.string ⟨(Lib.itoa n).toArray⟩, []) := by simp only [itU, if_pos hn]
  show With (itU [.int .i64 n] []) _
  rw [e, With_some]
  exact ⟨rfl, rfl⟩
theorem rd_vv (R : Rl) (x : VV) : Rd R x.v x.v := .agg _ _ rfl (RdL.cons (.int _ _) (.cons (.int _ _) (.cons (.string _) .nil))).2
theorem rd_vv_eq {R : Rl} {x : VV} {u : Value} (h : Rd R x.v u) : u = x.v := Rd.flat_eq 8 x.v u rfl h
/-! ### CONCAT, given from outside -/
def decVV : Value → Option VV
  | .agg ⟨[.int .i64 k, .int .i64 n, .string s]⟩ => some ⟨k, n, s⟩
  | _ => none
def decVs : List Value → Option (List VV)
  | [] => some []
  | v :: r => (decVV v).bind fun x => (decVs r).map fun l => x :: l
theorem dec_vs : ∀ l : List VV, decVs (l.map VV.v) = some l
  | [] => rfl
  | x :: l => by simp [decVs, VV.v, decVV, dec_vs l]
theorem dec_of : ∀ (vs : List Value) (l : List VV), decVs vs = some l → vs = l.map VV.v
  | [], l, h => by simp only [decVs] at h; cases h; rfl
  | v :: r, l, h => by
    simp only [decVs, Option.bind_eq_some_iff, Option.map_eq_some_iff] at h
    obtain ⟨x, hx, l', hl, rfl⟩ := h
    rw [dec_of r l' hl]
    unfold decVV at hx
    split at hx
    · cases hx; rfl
    · cases hx
/-- What may be shown by CONCAT. -/
def canS (l : List VV) : Bool := decide (l.length ≤ 1000) && l.all fun x => rightF x && !decide (x.k = 4) && decide (-9223372036854775808 ≤ x.n) && decide (x.n ≤ 9223372036854775807)
def catU : List Value → List Blk → Option (Value × List (Nat × Blk)) := fun args _ => match args with
  | [.slice none 0 0] => some ((textF .empty).v, [])
  | [v] => (match view v with
    | .ro _ 3 l => (decVs l).bind fun l => if canS l then some ((textF ⟨(catF showF l).toArray⟩).v, []) else none
    | _ => none)
  | _ => none
theorem canS_of {l : List VV} (h : canS l = true) : l.length ≤ 1000 ∧ ∀ x ∈ l, rightF x = true ∧ x.k ≠ 4 ∧ -9223372036854775808 ≤ x.n ∧ x.n ≤ 9223372036854775807 := by
  simp only [canS, Bool.and_eq_true, decide_eq_true_eq, List.all_eq_true] at h
  refine ⟨h.1, fun x hx => ?_⟩
  obtain ⟨⟨⟨h1, h2⟩, h3⟩, h4⟩ := h.2 x hx
  exact ⟨h1, by simpa using h2, h3, h4⟩
theorem showF_le {x : VV} (hr : rightF x = true) (h4 : x.k ≠ 4) (hn : -9223372036854775808 ≤ x.n ∧ x.n ≤ 9223372036854775807) : (showF x).size ≤ 1000 := by
  unfold showF
  split
  · have : (⟨(Lib.itoa x.n).toArray⟩ : ByteArray).size = (Lib.itoa x.n).length := rfl
    rw [this]
    have := Lib.itoa_length_le x.n hn.1 hn.2
    omega
  · rename_i h1
    split
    · split <;> decide
    · rename_i h3
      have hk := kinds_of hr h4
      rcases hk with h | h | h | ⟨h, _⟩
      · unfold rightF at hr
        rw [if_pos h] at hr
        simp only [Bool.and_eq_true, decide_eq_true_eq] at hr
        omega
      · exact absurd h h1
      · unfold rightF at hr
        rw [if_neg (by omega), if_neg h1, if_pos h] at hr
        simp only [Bool.and_eq_true, decide_eq_true_eq] at hr
        omega
      · exact absurd h h3
theorem cells_at3 : ∀ (l : List VV) (i : Nat) (x : VV), l[i]? = some x → ((cellsL (l.map VV.v)).drop (i * 3)).take 3 = [.int .i64 x.k, .int .i64 x.n, .string x.s]
  | [], i, x, h => by simp at h
  | y :: l, 0, x, h => by
    simp only [List.getElem?_cons_zero, Option.some.injEq] at h
    subst h
    simp [cellsL, VV.v, Value.cells]
  | y :: l, i + 1, x, h => by
    simp only [List.getElem?_cons_succ] at h
    have := cells_at3 l i x h
    have e : (i + 1) * 3 = 3 + i * 3 := by omega
    rw [e, ← List.drop_drop]
    have e2 : (cellsL ((y :: l).map VV.v)).drop 3 = cellsL (l.map VV.v) := by simp [cellsL, VV.v, Value.cells]
    rw [e2, this]
theorem cells_len (l : List VV) : (cellsL (l.map VV.v)).length = l.length * 3 := by
  induction l with
  | nil => rfl
  | cons x l ih =>
    have e2 : cellsL ((x :: l).map VV.v) = [.int .i64 x.k, .int .i64 x.n, .string x.s] ++ cellsL (l.map VV.v) := by simp [cellsL, VV.v, Value.cells]
    rw [e2, List.length_append, ih, List.length_cons]
    simp; omega
theorem cells_scal (l : List VV) : ∀ v ∈ cellsL (l.map VV.v), isScal v = true := by
  intro v hv
  simp only [cellsL, List.mem_flatMap, List.mem_map] at hv
  obtain ⟨w, ⟨x, _, rfl⟩, hv⟩ := hv
  simp only [VV.v, Value.cells, List.mem_cons, List.not_mem_nil, or_false] at hv
  rcases hv with rfl | rfl | rfl <;> rfl
theorem rdl_eq {R : Rl} : ∀ (a b : List Value), RdL R a b → (∀ v ∈ a, isScal v = true) → b = a
  | [], b, h, _ => List.length_eq_zero_iff.1 h.1.symm
  | x :: a, [], h, _ => by have := h.1; simp at this
  | x :: a, y :: b, h, hs => by
    rw [h.head.inv_scal (hs x (by simp)), rdl_eq a b h.tail fun v hv => hs v (by simp [hv])]
theorem cat_ok : ∀ args B r ws, catU args B = some (r, ws) → ∀ R cargs, HRel R B → (∀ d, R.ρ (d, none) = none) → RdL R args cargs → Df Tryd.prog YS 100 cargs R.H fun cr H' => ∃ R' : Rl, R'.H = H' ∧ Done R R' B ws ∧ Rd R' r cr := by
  have main : ∀ (l : List VV) (R : Rl) (B : List Blk) (u : Value), canS l = true → HRel R B → (∀ d, R.ρ (d, none) = none) →
      ((l = [] ∧ ∃ p q, u = .slice p 0 q) ∨ ∃ b off, u = .slice (some ⟨b, off, none⟩) l.length 3 ∧ b < R.H.next ∧ ∀ (i : Nat) x, l[i]? = some x → cellsAt R.H ⟨b, off + i * 3, none⟩ 3 = some [.int .i64 x.k, .int .i64 x.n, .string x.s]) →
      Df Tryd.prog YS 100 [u] R.H fun cr H' => ∃ R' : Rl, R'.H = H' ∧ Done R R' B [] ∧ Rd R' (textF ⟨(catF showF l).toArray⟩).v cr := by
    intro l R B u hl hR hf hu
    obtain ⟨h1, h2⟩ := canS_of hl
    refine (concat_spec (X := YS) rfl rfl rfl rfl (f := showF) (g := textF) h1 (fun x hx => showF_le (h2 x hx).1 (h2 x hx).2.1 (h2 x hx).2.2) (fun x hx H => ?_) (fun s H => ?_) hu).mono ?_
    · have := show_p xs0_a rfl it_c x.k x.n x.s (h2 x hx).1 (h2 x hx).2.1 (h2 x hx).2.2
      exact Vp_Df xs0_ok this H (fun R => .cons (rd_vv R x) .nil) fun R u h => h.inv_string
    · exact Vp_Df xs0_ok (textg_p xs0_a rfl s) H (fun R => .cons (.string _) .nil) fun R u h => rd_vv_eq h
    · rintro cr H' ⟨rfl, n2, g2⟩
      exact ⟨{ R with H := H' }, rfl, done_more hR hf n2 g2, rd_vv _ _⟩
  intro args B r ws hr R cargs hR hf ha
  unfold catU at hr
  split at hr
  · cases hr
    obtain rfl := rdl_scal' _ _ ha rfl
    exact main [] R B _ rfl hR hf (.inl ⟨rfl, none, 0, rfl⟩)
  · rename_i v _
    obtain ⟨u, rfl⟩ : ∃ u, cargs = [u] := by
      have := ha.1
      match cargs, this with
      | [u], _ => exact ⟨u, rfl⟩
    have hv := ha.head
    split at hr
    · rename_i d lv hview
      simp only [Option.bind_eq_some_iff] at hr
      obtain ⟨l, hl, hr⟩ := hr
      split at hr
      · rename_i hc
        cases hr
        obtain rfl := hv.is_ro hview
        obtain rfl := dec_of lv l hl
        obtain ⟨b, off, rfl, _, hh⟩ := hv.inv_ro
        rw [List.length_map]
        refine main l R B _ hc hR hf ?_
        rcases hh with h0 | ⟨o, el, c, hp, _, hg, hle, _, _, hd⟩
        · have : l = [] := by simpa using h0
          subst this
          exact .inl ⟨rfl, _, _, rfl⟩
        · rw [List.length_map] at hle hd
          have heq := rdl_eq _ _ hd (cells_scal l)
          refine .inr ⟨b, off, rfl, hp.1, fun i x hx => ?_⟩
          have hil : i < l.length := (List.getElem?_eq_some_iff.1 hx).1
          have h3 := cells_at3 l i x hx
          rw [← heq, List.drop_take, List.drop_drop, List.take_take] at h3
          have hmin : min 3 (l.length * 3 - i * 3) = 3 := by omega
          rw [hmin] at h3
          simp only [cellsAt, hg]
          rw [if_neg (by decide), if_pos ⟨by omega, trivial⟩, h3]
      · cases hr
    · cases hr
  · cases hr
end Go.Proofs.YtmdpggecelheoaaDoor.Abs
/- The law FuncsShare: calls by name, and its text. -/
set_option linter.unusedVariables false
set_option linter.unusedSimpArgs false
set_option maxRecDepth 8000
set_option maxHeartbeats 0
namespace Go.Proofs.YtmdpggecelheoaaDoor.Abs
open Go Go.RowKit
attribute [local irreducible] Hold VReg Vf Vc VWP With VStp Vcallee Vp VE
def XS : VOuter := fun f => if f = 100 then some catU else if f = 172 then some (fun _ _ => none) else if f = 62 then some itU else none
theorem xs_ok : VXOk Tryd.prog YS XS := by
  intro f
  by_cases h0 : f = 100
  · subst h0
    show ∀ args B r ws, catU args B = some (r, ws) → _
    exact cat_ok
  · by_cases h3 : f = 172
    · subst h3
      show ∀ args B r ws, (none : Option (Value × List (Nat × Blk))) = some (r, ws) → _
      intro args B r ws hr
      cases hr
    · by_cases h1 : f = 62
      · subst h1
        show ∀ args B r ws, itU args B = some (r, ws) → _
        exact it_ok
      · have e : XS f = none := by unfold XS; rw [if_neg h0, if_neg h3, if_neg h1]
        rw [e]
        show YS f = none
        unfold YS
        rw [if_neg h1, if_neg h3]
theorem xs_off : XOff [100, 172, 62] XS := fun f h => by
  unfold XS
  rw [if_neg, if_neg, if_neg] <;> (rintro rfl; simp at h)
theorem xs_a : AOff XS := ⟨rfl, rfl, rfl, rfl, rfl, rfl, rfl, rfl, rfl, rfl, rfl, rfl, rfl, rfl, rfl, rfl⟩
theorem cat_c (l : List VV) (hl : canS l = true) (c : Bool) (t : Nat) (S : VH) (K : VCont) : Vcallee Tryd.prog XS 100 [ol c (t, none) 3 (l.map VV.v)] S K = K (.agg ⟨[.int .i64 (textF ⟨(catF showF l).toArray⟩).k, .int .i64 (textF ⟨(catF showF l).toArray⟩).n, .string (textF ⟨(catF showF l).toArray⟩).s]⟩) [] S [] false := by
  refine Vcallee_of (args' := [sl c 1 3 (l.map VV.v)]) ?_ (by simp only [mapOwnL_cons, mapOwnL_nil, lend_ol]) (by simp only [okvL_cons, okvL_nil, okv_sl, Bool.and_true]) rfl
  unfold Vp
  refine Vf_outer (g := catU) rfl ?_
  have e : catU [sl c 1 3 (l.map VV.v)] [] = some ((textF ⟨(catF showF l).toArray⟩).v, []) := by
    unfold sl
    split
    · rename_i h
      simp only [Bool.and_eq_true, List.isEmpty_iff] at h
      have : l = [] := by simpa using h.2
      subst this
      rfl
    · show (match view (vs 1 3 (l.map VV.v)) with | .ro _ 3 l => (decVs l).bind fun l => if canS l then some ((textF ⟨(catF showF l).toArray⟩).v, ([] : List (Nat × Blk))) else none | _ => none) = _
      rw [view_vs]
      simp only [dec_vs, Option.bind_some, hl, if_true]
  rw [e, With_some]
  exact ⟨rfl, rfl⟩
/-- What a function of all values tells. -/
structure Fn9 where
  name : ByteArray
  lazy : Bool
  G : List VV → VV
def fn9V (lazy : Bool) (g : FuncId) : Value := .tuple ⟨[.agg ⟨[.int .i64 (-1), .bool lazy, .func (.func g) #[] #[]]⟩, .bool true]⟩
/-- Values that may be given. -/
def Given (rs : List RW) : Prop := rs.length ≤ 1000 ∧ (flatF rs).length ≤ 1000 ∧ ∀ x ∈ flatF rs, -9223372036854775808 ≤ x.n ∧ x.n ≤ 9223372036854775807
theorem fix_ok {rs : List RW} : ∀ x ∈ flatF rs, rightF x = true := by
  intro x hx
  simp only [flatF, List.mem_flatMap, List.mem_map] at hx
  obtain ⟨r, _, y, _, rfl⟩ := hx
  unfold fixV
  split
  · assumption
  · rfl
theorem no_err {l : List VV} (hr : ∀ x ∈ l, rightF x = true) (h : (firstF l).2 = false) : ∀ x ∈ l, x.k ≠ 4 := by
  have ha : l.all rightF = true := List.all_eq_true.2 hr
  unfold firstF at h
  rw [if_pos ha] at h
  split at h
  · cases h
  · rename_i hn
    intro x hx
    simpa using List.find?_eq_none.1 hn x hx
theorem call9 (name : ByteArray) (lazy : Bool) (g : FuncId) (G : List VV → VV) (hfind : ∀ S K, Vcallee Tryd.prog XS 50 [.string name] S K = K (fn9V lazy g) [] S [] false) (hgo : funcOk Tryd.prog g = true)
    (rs : List RW) (hg : Given rs) (hG : ((firstF (flatF rs)).2 && !lazy) = false → ∀ c S K, Vcallee Tryd.prog XS g [ol c (46, none) 3 ((flatF rs).map VV.v)] S K = K (.agg ⟨[.int .i64 (G (flatF rs)).k, .int .i64 (G (flatF rs)).n, .string (G (flatF rs)).s]⟩) [] S [] false)
    (t : Nat) (S : VH) (K : VCont) : Vcallee Tryd.prog XS 33 [.string name, vo (t, none) 1 0 (rs.map (RW.v 0))] S K = K (.agg ⟨[.int .i64 (callF (-1) lazy G rs).k, .int .i64 (callF (-1) lazy G rs).n, .string (callF (-1) lazy G rs).s]⟩) [] S [] false :=
  Vcallee_of (call_p2 xs_a rfl rfl rfl name (-1) lazy g G hfind hgo false 1 0 rs (by have := hg.1; omega) (by have := hg.2.1; omega) hG) rfl (by
    simp only [okvL_cons, okvL_nil, Bool.and_true]; rfl) rfl
/-- Shared out or not: the same. -/
theorem call9_same (lazy : Bool) (G : List VV → VV) {rs rs' : List RW} (h : flatF rs = flatF rs') : callF (-1) lazy G rs = callF (-1) lazy G rs' := by
  unfold callF
  rw [h]
  rfl
theorem self_vv6 (x y : Operand) (k n : Int) (s : ByteArray) : vbin Tryd.prog .eql 48 x y (.agg ⟨[.int .i64 k, .int .i64 n, .string s]⟩) (.agg ⟨[.int .i64 k, .int .i64 n, .string s]⟩) = some (.bool true) := by
  rw [vbin_agg _ _ _ _ _ rfl rfl]
  exact abin_aeql rfl rfl Tryd.eqGuardType48 (aeq_self 20 48 _ (by kernel_rfl))
theorem few6_c (t : Nat) (c : Bool) (l : List VV) (hl : (l.length : Int) ≤ 40) (S : VH) (K : VCont) : Vcallee Tryd.prog XS 32 [vo (t, none) 1 0 [sl c 0 3 (l.map VV.v)]] S K = K (.bool (fewF [⟨c, l⟩])) [] S [] false :=
  Vcallee_of (few_p rfl false 1 0 [⟨c, l⟩] (by simp) (by intro r hr; simp at hr; subst hr; dsimp only; omega)) rfl rfl rfl
theorem alive6_c (S : VH) (K : VCont) : Vcallee Tryd.prog XS 31 [] S K = K (.bool true) [] S [] false := Vcallee_of (Vp_closed xs_off 20 (by kernel_rfl)) rfl rfl rfl
/-! ### The nine names -/
def NM : List ByteArray := [⟨#[83, 85, 77]⟩, ⟨#[77, 73, 78]⟩, ⟨#[77, 65, 88]⟩, ⟨#[67, 79, 85, 78, 84]⟩, ⟨#[65, 86, 71]⟩, ⟨#[65, 78, 68]⟩, ⟨#[79, 82]⟩, ⟨#[67, 79, 78, 67, 65, 84]⟩, ⟨#[67, 79, 85, 78, 84, 65]⟩]
/-- One of the nine tells the same of the same values. -/
def Same9 (name : ByteArray) : Prop := ∀ rs rs', Given rs → flatF rs = flatF rs' → Given rs' → ∃ r : VV, (∀ t S K, Vcallee Tryd.prog XS 33 [.string name, vo (t, none) 1 0 (rs.map (RW.v 0))] S K = K (.agg ⟨[.int .i64 r.k, .int .i64 r.n, .string r.s]⟩) [] S [] false) ∧
  ∀ t S K, Vcallee Tryd.prog XS 33 [.string name, vo (t, none) 1 0 (rs'.map (RW.v 0))] S K = K (.agg ⟨[.int .i64 r.k, .int .i64 r.n, .string r.s]⟩) [] S [] false
theorem same9_of (name : ByteArray) (lazy : Bool) (g : FuncId) (G : List VV → VV) (hfind : ∀ S K, Vcallee Tryd.prog XS 50 [.string name] S K = K (fn9V lazy g) [] S [] false) (hgo : funcOk Tryd.prog g = true)
    (hG : ∀ rs, Given rs → ((firstF (flatF rs)).2 && !lazy) = false → ∀ c S K, Vcallee Tryd.prog XS g [ol c (46, none) 3 ((flatF rs).map VV.v)] S K = K (.agg ⟨[.int .i64 (G (flatF rs)).k, .int .i64 (G (flatF rs)).n, .string (G (flatF rs)).s]⟩) [] S [] false) : Same9 name := by
  intro rs rs' h he h'
  refine ⟨callF (-1) lazy G rs, fun t S K => call9 name lazy g G hfind hgo rs h (hG rs h) t S K, fun t S K => ?_⟩
  rw [call9_same lazy G he]
  exact call9 name lazy g G hfind hgo rs' h' (hG rs' h') t S K
theorem lend1 {c : Bool} {k : Tok} {l : List VV} : mapOwnL (lend true) [ol c k 3 (l.map VV.v)] = [sl c 1 3 (l.map VV.v)] := by simp only [mapOwnL_cons, mapOwnL_nil, lend_ol]
theorem okv1 {c : Bool} {l : List VV} : okvL 0 false [sl c 1 3 (l.map VV.v)] = true := by simp only [okvL_cons, okvL_nil, okv_sl, Bool.and_true]
theorem s9_sum : Same9 ⟨#[83, 85, 77]⟩ := same9_of _ false 85 (fun l => sumF (intsF l)) (fun S K => Vcallee_of (Vp_closed xs_off 6 (by kernel_rfl)) rfl rfl rfl) (by kernel_rfl) fun rs hg _ c S K => Vcallee_of (sum_p xs_a rfl rfl c 1 _ (by have := hg.2.1; omega)) lend1 okv1 rfl
theorem s9_min : Same9 ⟨#[77, 73, 78]⟩ := same9_of _ false 86 (fun l => iV (bestF minI (intsF l))) (fun S K => Vcallee_of (Vp_closed xs_off 6 (by kernel_rfl)) rfl rfl rfl) (by kernel_rfl) fun rs hg _ c S K => Vcallee_of (min_p xs_a rfl rfl rfl rfl c 1 _ (by have := hg.2.1; omega)) lend1 okv1 rfl
theorem s9_max : Same9 ⟨#[77, 65, 88]⟩ := same9_of _ false 89 (fun l => iV (bestF maxI (intsF l))) (fun S K => Vcallee_of (Vp_closed xs_off 6 (by kernel_rfl)) rfl rfl rfl) (by kernel_rfl) fun rs hg _ c S K => Vcallee_of (max_p xs_a rfl rfl rfl rfl c 1 _ (by have := hg.2.1; omega)) lend1 okv1 rfl
theorem s9_count : Same9 ⟨#[67, 79, 85, 78, 84]⟩ := same9_of _ false 91 (fun l => iV (intsF l).length) (fun S K => Vcallee_of (Vp_closed xs_off 6 (by kernel_rfl)) rfl rfl rfl) (by kernel_rfl) fun rs hg _ c S K => Vcallee_of (count_p xs_a rfl rfl c 1 _ (by have := hg.2.1; omega)) lend1 okv1 rfl
theorem s9_avg : Same9 ⟨#[65, 86, 71]⟩ := same9_of _ false 95 (fun l => pairF divV (sumF (intsF l)) (iV (intsF l).length)) (fun S K => Vcallee_of (Vp_closed xs_off 6 (by kernel_rfl)) rfl rfl rfl) (by kernel_rfl) fun rs hg _ c S K => Vcallee_of (avg_p xs_a rfl rfl rfl c 1 _ (by have := hg.2.1; omega)) lend1 okv1 rfl
theorem s9_and : Same9 ⟨#[65, 78, 68]⟩ := same9_of _ false 97 (fun l => truthsF false l) (fun S K => Vcallee_of (Vp_closed xs_off 6 (by kernel_rfl)) rfl rfl rfl) (by kernel_rfl) fun rs hg _ c S K => Vcallee_of (and_p xs_a rfl rfl rfl rfl c 1 _ (by have := hg.2.1; omega)) lend1 okv1 rfl
theorem s9_or : Same9 ⟨#[79, 82]⟩ := same9_of _ false 99 (fun l => truthsF true l) (fun S K => Vcallee_of (Vp_closed xs_off 6 (by kernel_rfl)) rfl rfl rfl) (by kernel_rfl) fun rs hg _ c S K => Vcallee_of (or_p xs_a rfl rfl rfl rfl c 1 _ (by have := hg.2.1; omega)) lend1 okv1 rfl
theorem s9_counta : Same9 ⟨#[67, 79, 85, 78, 84, 65]⟩ := same9_of _ true 94 (fun l => iV (countaF l)) (fun S K => Vcallee_of (Vp_closed xs_off 6 (by kernel_rfl)) rfl rfl rfl) (by kernel_rfl) fun rs hg _ c S K => Vcallee_of (counta_p xs_a rfl c 1 _ (by have := hg.2.1; omega)) lend1 okv1 rfl
theorem s9_concat : Same9 ⟨#[67, 79, 78, 67, 65, 84]⟩ := same9_of _ false 100 (fun l => textF ⟨(catF showF l).toArray⟩) (fun S K => Vcallee_of (Vp_closed xs_off 6 (by kernel_rfl)) rfl rfl rfl) (by kernel_rfl) fun rs hg hf c S K => by
  have hc : canS (flatF rs) = true := by
    have hr := fix_ok (rs := rs)
    have hn := no_err hr (by simpa using hf)
    unfold canS
    rw [Bool.and_eq_true, decide_eq_true_eq, List.all_eq_true]
    refine ⟨hg.2.1, fun x hx => ?_⟩
    have hx2 := hg.2.2 x hx
    simp [hr x hx, hn x hx, hx2.1, hx2.2]
  exact cat_c _ hc c 46 S K
end Go.Proofs.YtmdpggecelheoaaDoor.Abs
