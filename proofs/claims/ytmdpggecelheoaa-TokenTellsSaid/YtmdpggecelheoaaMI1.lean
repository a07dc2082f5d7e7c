/- What stands between two quotes: in plain words. -/
import Derived.Test.YtmdpggecelheoaaPA1
import Derived.Shelf.Strings.Builder1
import Derived.Test.YtmdpggecelheoaaProg
import Derived.Test.YtmdpggecelheoaaPTF
import Derived.Test.YtmdpggecelheoaaPA20
import Derived.Test.YtmdpggecelheoaaPA27
import Derived.Shelf.Small.Strs
import Derived.Shelf.Strings.Search1
set_option linter.unusedVariables false
namespace Go.Proofs.Ytmdpggecelheoaa.Abs
open Go
/-- What stands between two quotes, from place k on: its text, and where it ends. -/
def quoF (s : ByteArray) : Nat → Nat → List UInt8 → Option (List UInt8 × Nat)
  | 0, _, _ => none
  | n + 1, k, acc => match s[k]? with
    | none => none
    | some c => if c = 34 then (if s[k + 1]? = some 34 then quoF s n (k + 2) (acc ++ [34]) else some (acc, k + 1)) else quoF s n (k + 1) (acc ++ [c])
def quoV : Option (List UInt8 × Nat) → Value
  | some (t, k) => .tuple ⟨[.string ⟨t.toArray⟩, .int .i64 k, .bool true]⟩
  | none => .tuple ⟨[.string .empty, .int .i64 0, .bool false]⟩
theorem quoF_none {s : ByteArray} {k : Nat} (h : s.size ≤ k) (n : Nat) (acc : List UInt8) : quoF s n k acc = none := by
  cases n with
  | zero => rfl
  | succ n =>
    have : s[k]? = none := getElem?_neg s k (by omega)
    simp only [quoF, this]
theorem u8_lit (c : UInt8) : ((c.toNat : Int) = 34) ↔ c = 34 := by
  constructor
  · intro h
    apply UInt8.toNat_inj.1
    have : c.toNat = 34 := by omega
    rw [this]; rfl
  · rintro rfl; rfl
end Go.Proofs.Ytmdpggecelheoaa.Abs
/- strings.Builder.copyCheck, walked at the machine: a fresh builder writes its own address down; a used one looks at it. -/
set_option linter.unusedVariables false
namespace Go.Proofs.Ytmdpggecelheoaa.Abs
open Go Go.RowKit Go.Proofs
theorem bld_size : (Try.prog.info? 44).map (·.size) = some 2 := by kernel_rfl
theorem bld_lies : liesAt Try.prog Try.prog.depth 44 (2 / Try.prog.cellsOf 44) 0 44 1 = true := by kernel_rfl
set_option maxHeartbeats 1000000
set_option maxRecDepth 100000
theorem check_used (b : Nat) (w : World) (h0 : w.cell? ⟨b, 0, none⟩ = some (.pointer (some ⟨b, 0, none⟩))) :
    Calls Try.prog 26 #[.pointer (some ⟨b, 0, none⟩)] w fun e w' => e = .returned (.tuple #[]) ∧ w' = w := by
  obtain ⟨j, hj, _⟩ := Option.map_eq_some_iff.1 bld_size
  go_enter Try.func26, Try.ntmps26
  go_wp2
  rw [Lib.run_neq_ptr_same w _ Try.underlying41 hj]
  go_wp2
  go_end0
  exact ⟨rfl, rfl⟩
theorem check_fresh (b : Nat) (w : World) (h0 : w.cell? ⟨b, 0, none⟩ = some (.pointer none)) (hsh : w.shape? b = some (44, 2)) (hfz : w.frozen? ⟨b, 0, none⟩ = false) :
    Calls Try.prog 26 #[.pointer (some ⟨b, 0, none⟩)] w fun e w' => e = .returned (.tuple #[]) ∧ w' = w.setCell ⟨b, 0, none⟩ (.pointer (some ⟨b, 0, none⟩)) := by
  obtain ⟨j, hj, hjs⟩ := Option.map_eq_some_iff.1 bld_size
  go_enter Try.func26, Try.ntmps26
  go_wp2
  rw [Lib.run_to_unsafe w ⟨b, 0, none⟩ Try.underlying41 Try.underlying51 hj (by rw [hjs]; decide) hsh (Nat.zero_lt_succ 1)]
  simp only [Result.andThen]
  rw [Oper.upon_value]
  go_wp2
  rw [run_callFunc_extern Try.func28 (by kernel_rfl) (by kernel_rfl) (by kernel_rfl) (e := Extern.AbiNoEscape.same) (by kernel_rfl), Lib.run_noEscape]
  simp only [Result.andThen]
  rw [Oper.upon_value]
  go_wp2
  rw [Lib.run_from_unsafe w ⟨b, 0, none⟩ Try.underlying51 Try.underlying41 hj hsh bld_lies]
  simp only [Result.andThen]
  rw [Oper.upon_value]
  go_wp2
  go_end0
  exact ⟨rfl, rfl⟩
end Go.Proofs.Ytmdpggecelheoaa.Abs
/- strings.Builder over the plain heap: what is given of copyCheck, and the walks of WriteByte and String. -/
set_option linter.unusedVariables false
set_option linter.unusedSimpArgs false
set_option maxRecDepth 4000
namespace Go.Proofs.Ytmdpggecelheoaa.Abs
open Go Go.RowKit
theorem exact_cb : ∀ l : List UInt8, exactBytes (l.map cb) = some l
  | [] => rfl
  | b :: l => by
    have ih := exact_cb l
    show (if (b.toNat : Int) = ((UInt8.ofNat (b.toNat : Int).toNat).toNat : Int) then (exactBytes (l.map cb)).map (UInt8.ofNat (b.toNat : Int).toNat :: ·) else none) = some (b :: l)
    rw [Int.toNat_natCast, UInt8.ofNat_toNat, if_pos rfl, ih]
    rfl
theorem Step_ustr {X : Outer} {ops : Array Oper} {dd : Option Tmp} {ty : TypeId} {pos : String} {af : Array Edge} {e : Env} {H : Hp} {K : Value → Hp → Prop} (pt it : TypeId) (s x : Operand) :
    Step Try.prog X ops ⟨dd, .call ⟨.builtin .unsafeString, #[s, x], #[pt, it]⟩, ty, pos, af, none⟩ e H K = With (austr Try.prog pt (aeval e s) (aeval e x) H) (Hold fun r => K r.1 r.2) := by
  rw [Step_heavy _ rfl]
  simp only [hop, With_map]
  rfl
theorem lop_data {ρ : Operand → Value} {H : Hp} (x : Operand) (ts : Array TypeId) : lop Try.prog ρ H (.call ⟨.builtin .unsafeSliceData, #[x], ts⟩) = adata (ρ x) := by
  simp only [lop]
theorem Step_data {X : Outer} {ops : Array Oper} {dd : Option Tmp} {ty : TypeId} {pos : String} {af : Array Edge} {e : Env} {H : Hp} {K : Value → Hp → Prop} (x : Operand) (ts : Array TypeId) :
    Step Try.prog X ops ⟨dd, .call ⟨.builtin .unsafeSliceData, #[x], ts⟩, ty, pos, af, none⟩ e H K = With (adata (aeval e x)) (Hold fun v => K v H) := by
  rw [← lop_data (H := H) x ts]; exact Step_light _ rfl
attribute [local irreducible] Hold DR DF Df Dc WP With
/-- A builder's first use writes its own address down. -/
def cpG : List Value → Hp → Option (Value × Hp) := fun args H => match args with
  | [.pointer (some ⟨i, 0, none⟩)] => (match H.get i with
    | .cells true e [.pointer none, s] => if e = bxT 44 then some (.tuple #[], H.put i (.cells true e [.pointer (some ⟨i, 0, none⟩), s])) else none
    | .cells true e [.pointer (some c), s] => if e = bxT 44 ∧ c = ⟨i, 0, none⟩ then some (.tuple #[], H) else none
    | _ => none)
  | _ => none
theorem one_arg {φ : Plan} {v : Value} {args' : List Value} (h : VRs φ [v] args') : ∃ v', args' = [v'] ∧ VR φ v v' := by
  match args', h.1 with
  | [v'], _ => exact ⟨v', rfl, h.head⟩
theorem cp_sound {B : Nat} {w0 : World} : KSound Try.prog B w0 fun f' args H => if f' = 26 then cpG args H else none := by
  intro b hb f' args H v H' hr φ w args' hR ha
  simp only at hr
  split at hr
  · rename_i hff
    subst hff
    unfold cpG at hr
    split at hr
    · rename_i i
      obtain ⟨v', rfl, hv⟩ := one_arg ha
      cases hv with
      | ptr _ _ m hm =>
        split at hr
        · rename_i e s hg
          split at hr
          · rename_i he
            subst he
            cases hr
            obtain ⟨c1, h1, h2, h3⟩ := cell_at hR (a := ⟨i, 0, none⟩) (v := Value.pointer none) (by simp [cellAt, hg]) hm
            cases h2
            obtain ⟨cur, e', fr, hh, hbx, hsz, hvr, hone, hown⟩ := cells_blk hR hg hm
            obtain ⟨b1, b2, b3⟩ := (hbx rfl).1 (bxT_1 _)
            rw [elT_bx] at b1
            subst b1
            simp only [b2, Nat.zero_add] at h1 ⊢
            obtain ⟨k1, k2, k3, k4⟩ := hown rfl
            have b3' : cur.size = 2 := b3
            have hfz : w.frozen? ⟨m.blk, 0, none⟩ = false := by
              simp only [World.frozen?, hh]
              refine k4 0 ?_
              simp only [List.length_cons, List.length_nil] at k3
              omega
            refine (check_fresh m.blk w h1 (by simp [World.shape?, hh, b3']) hfz).mono ?_
            rintro e w' ⟨rfl, rfl⟩
            have hself : VRs φ [Value.pointer (some ⟨i, 0, none⟩)] [Value.pointer (some ⟨m.blk, 0, none⟩)] := .cons (by have := VR.ptr (φ := φ) i 0 m hm; rwa [b2] at this) (.nil φ)
            obtain ⟨cur2, e2, fr2, g1, _, g3⟩ := hR.store (P := Try.prog) hg hm (off := 0) (vs := [Value.pointer (some ⟨i, 0, none⟩)]) (vs' := [Value.pointer (some ⟨m.blk, 0, none⟩)]) (by simp) hself (by intro v hv; simp at hv; subst hv; rfl)
            rw [hh] at g1
            cases g1
            rw [setCell_eq_setRow w m.blk 0 cur _ fr _ hh]
            refine ⟨φ, _, Plan.le_refl φ, rfl, .junk _, ?_⟩
            have ec : (cur.setIfInBounds 0 (Value.pointer (some ⟨m.blk, 0, none⟩))) = (cur.toList.take (m.base + 0) ++ [Value.pointer (some ⟨m.blk, 0, none⟩)] ++ cur.toList.drop (m.base + 0 + [Value.pointer (some ⟨m.blk, 0, none⟩)].length)).toArray := by
              rw [b2]
              obtain ⟨l⟩ := cur
              match l, b3' with
              | [x, y], _ => rfl
            rw [ec]
            exact g3
          · cases hr
        · rename_i e c s hg
          split at hr
          · rename_i hc
            obtain ⟨he, rfl⟩ := hc
            subst he
            cases hr
            obtain ⟨c1, h1, h2, h3⟩ := cell_at hR (a := ⟨i, 0, none⟩) (v := Value.pointer (some ⟨i, 0, none⟩)) (by simp [cellAt, hg]) hm
            obtain ⟨cur, e', fr, hh, hbx, _⟩ := cells_blk hR hg hm
            obtain ⟨b1, b2, b3⟩ := (hbx rfl).1 (bxT_1 _)
            cases h2 with
            | ptr _ _ m2 hm2 =>
              rw [hm] at hm2
              cases hm2
              simp only [b2, Nat.zero_add] at h1 ⊢
              refine (check_used m.blk w h1).mono ?_
              rintro e w' ⟨rfl, rfl⟩
              exact ⟨φ, _, Plan.le_refl φ, rfl, .junk _, hR⟩
          · cases hr
        · cases hr
    · cases hr
  · cases hr
/-! ### A builder's bytes -/
/-- A row of bytes of one's own, or the nil slice. -/
def Row (n0 i : Nat) (H : Hp) (s : Value) (l : List UInt8) : Prop :=
  (l = [] ∧ s = .slice none 0 0) ∨ ∃ j, s = .slice (some ⟨j, 0, none⟩) l.length 1 ∧ n0 ≤ j ∧ j < H.next ∧ j ≠ i ∧ l ≠ [] ∧ H.get j = .cells true (slT 5) (l.map cb)
/-- A builder in block i that holds these bytes; what was there at H0 stands. -/
def Bld (H0 H : Hp) (i : Nat) (l : List UInt8) : Prop := H0.next ≤ i ∧ i < H.next ∧ (∀ b, b < H0.next → H.get b = H0.get b) ∧
  ∃ a s, H.get i = .cells true (bxT 44) [.pointer a, s] ∧ (a = none ∨ a = some ⟨i, 0, none⟩) ∧ Row H0.next i H s l
theorem Row.frame {n0 i : Nat} {H H' : Hp} {s : Value} {l : List UInt8} (h : Row n0 i H s l) (hn : H.next ≤ H'.next) (hg : ∀ j, n0 ≤ j → j < H.next → j ≠ i → H'.get j = H.get j) : Row n0 i H' s l := by
  rcases h with h | ⟨j, h1, h2, h3, h4, h5, h6⟩
  · exact .inl h
  · exact .inr ⟨j, h1, h2, by omega, h4, h5, by rw [hg j h2 h3 h4, h6]⟩
theorem Row.len {n0 i : Nat} {H : Hp} {s : Value} {l : List UInt8} (h : Row n0 i H s l) : isTup s = false ∧ s.cells = #[s] := by
  rcases h with ⟨_, rfl⟩ | ⟨j, rfl, _⟩ <;> exact ⟨rfl, rfl⟩
theorem Row.grow {n0 i : Nat} {H : Hp} {s : Value} {l new : List UInt8} (h : Row n0 i H s l) (h0 : new ≠ []) (hl : l.length + new.length ≤ 140737488355328) :
    ∃ Hb, agrow2 5 1 1 s new.length (new.map cb) H = some (.slice (some ⟨H.next, 0, none⟩) (l ++ new).length 1, Hb) ∧ Hb.next = H.next + 1 ∧ Hb.get H.next = .cells true (slT 5) ((l ++ new).map cb) ∧ ∀ b, b < H.next → (b < n0 ∨ b = i) → Hb.get b = H.get b := by
  have hk : new.length ≠ 0 := by simpa using h0
  rcases h with ⟨rfl, rfl⟩ | ⟨j, rfl, h2, h3, h4, h5, h6⟩
  · refine ⟨H.push (.cells true (slT 5) (new.map cb)), ?_, next_push _ _, by rw [get_push, if_pos rfl]; simp, fun b hb _ => by rw [get_push, if_neg (by omega)]⟩
    simp only [agrow2, hk, if_false]
    rw [if_pos ⟨by simp at hl ⊢; omega, by simp at hl; omega⟩]
    simp
  · refine ⟨(H.put j .dead).push (.cells true (slT 5) ((l ++ new).map cb)), ?_, by rw [next_push, next_put], by rw [get_push, next_put, if_pos rfl], fun b hb hor => by rw [get_push, next_put, if_neg (by omega), get_put, if_neg (by omega)]⟩
    simp only [agrow2, hk, if_false, h6]
    rw [if_pos ⟨trivial, trivial, by simp, by omega, by omega⟩]
    have : agT (slT 5) 5 0 = slT 5 := by simp [agT]
    simp only [this]
    have e1 : List.take (l.length * 1) (List.drop 0 (l.map cb)) ++ new.map cb = (l ++ new).map cb := by
      rw [List.drop_zero, List.take_of_length_le (by simp), List.map_append]
    rw [e1, List.length_append]
theorem cp_spec {X : Outer} (hX : X 26 = some cpG) {H0 H : Hp} {i : Nat} {l : List UInt8} (h : Bld H0 H i l) :
    Df Try.prog X 26 [.pointer (some ⟨i, 0, none⟩)] H fun _ H' => Bld H0 H' i l ∧ H'.next = H.next := by
  obtain ⟨h1, h2, h3, a, s, h4, h5, h6⟩ := h
  rcases h5 with rfl | rfl
  · refine Df_ext (r := (.tuple #[], H.put i (.cells true (bxT 44) [.pointer (some ⟨i, 0, none⟩), s]))) hX (by simp [cpG, h4]) ⟨⟨h1, by rw [next_put]; exact h2, fun b hb => by rw [get_put, if_neg (by omega)]; exact h3 b hb, some ⟨i, 0, none⟩, s, by rw [get_put, if_pos rfl], .inr rfl, ?_⟩, next_put _ _ _⟩
    exact h6.frame (by rw [next_put]; exact Nat.le_refl _) fun j _ _ hj => by rw [get_put, if_neg hj]
  · exact Df_ext (r := (.tuple #[], H)) hX (by simp [cpG, h4]) ⟨⟨h1, h2, h3, _, s, h4, .inr rfl, h6⟩, rfl⟩
theorem ae_nili (e : Env) : aeval e (.const .nilIface) = .nilIface := _root_.id rfl
theorem cb_as (b : UInt8) : Value.int .u8 (b.toNat : Int) = cb b := rfl
theorem wb_spec {X : Outer} (hX : X 23 = none) (hXc : X 26 = some cpG) {H0 H : Hp} {i : Nat} {l : List UInt8} {b : UInt8} (h : Bld H0 H i l) (hl : l.length + 1 ≤ 140737488355328) :
    Df Try.prog X 23 [.pointer (some ⟨i, 0, none⟩), cb b] H fun r H' => r = .nilIface ∧ Bld H0 H' i (l ++ [b]) := by
  refine Df_text hX Try.func23 rfl (by kernel_rfl) (by show 2 ≤ _; decide) ?_
  simp -dsimp only [↓WP_seq, ↓WP_region, ↓WP_ret, ↓DR_one, ↓DR_nil, ↓Step_move, ↓Step_assign, ↓Step_nilCheck, ↓Step_call, ↓Hold_1, With_some, ↓eget_eset, ↓ae_tmp, eget_zero, lop_nil, ↓finish_ret, ↓ares_nil, ↓ares_tmp, ret1, Option.map_some, ↓reduceIte, reduceCtorEq, List.map_cons, List.map_nil, List.toList_toArray, Try.results23, fk26]
  refine (cp_spec hXc h).mono ?_
  rintro r H1 ⟨⟨h1, h2, h3, a, s, h4, h5, h6⟩, _⟩
  generalize hHa : H1.push (.cells true (slT 5) [cb b]) = Ha
  have na : Ha.next = H1.next + 1 := by rw [← hHa, next_push]
  have ga : ∀ j, j < H1.next → Ha.get j = H1.get j := fun j hj => by rw [← hHa, get_push, if_neg (by omega)]
  have h6a : Row H0.next i Ha s l := h6.frame (by omega) fun j _ hj _ => ga j hj
  obtain ⟨Hb, b1, b2, b3, b4⟩ := h6a.grow (new := [b]) (by simp) (by simpa using hl)
  have hbi : Hb.get i = .cells true (bxT 44) [.pointer a, s] := by rw [b4 i (by omega) (.inr rfl), ga i h2, h4]
  have hne : i ≠ H1.next := by omega
  have htk : [cb b].take 1 = [cb b] := rfl
  have ltup : isTup s = false := h6.len.1
  simp only [List.length_singleton, List.map_cons, List.map_nil] at b1
  have gx : Ha.get H1.next = .cells true (slT 5) [cb b] := by rw [← hHa, get_push, if_pos rfl]
  simp -dsimp only [↓DR_one, ↓DR_non, ↓DR_nil, ↓Step_move, ↓Step_load, ↓Step_nilCheck, ↓Step_fieldAddr, ↓Step_buildSlice, ↓Step_store, ↓Step_append, ↓Hold_1, ↓Hold_2, With_some, ↓eget_eset, ↓ae_tmp, eget_zero, eget_succ, lop_nil, Option.map_some, Option.bind_some, ↓reduceIte, Nat.reduceEqDiff, reduceCtorEq, Bool.not_false, List.getElem?_cons_zero, List.getElem?_cons_succ, Nat.zero_add, Nat.reduceAdd, Nat.reduceMul, Nat.reduceLeDiff, true_and, and_self, List.map_cons, List.map_nil, List.all_cons, List.all_nil, cel_int, tup_slice, cel_slice, Bool.and_true, List.drop_zero, List.toList_toArray, List.size_toArray, List.length_cons, List.length_nil, fill_one, cellAt, cellsAt, acells, alenOf, Nat.le_refl, fa44_1, ld42, bs42, gr42, h4, ↓cb_cells, ↓cb_tup, htk, hHa, gx, b1, so42, hbi, ↓ae_nili]
  refine ⟨h1, by rw [next_put]; omega, fun k hk => by rw [get_put, if_neg (by omega), b4 k (by omega) (.inl hk), ga k (by omega), h3 k hk], a, _, by rw [get_put, if_pos rfl]; rfl, h5, ?_⟩
  exact .inr ⟨Ha.next, rfl, by omega, by rw [next_put]; omega, by omega, by simp, by rw [get_put, if_neg (by omega), b3]⟩
theorem bytes_of (h : Try.prog.cellsOf 5 = 1) {H : Hp} {j : Nat} {l : List UInt8} (h0 : l ≠ []) (hl : l.length ≤ 140737488355328) (hg : H.get j = .cells true (slT 5) (l.map cb)) :
    austr Try.prog 50 (.pointer (some ⟨j, 0, none⟩)) (.int .i64 l.length) H = some (.string ⟨l.toArray⟩, H.put j .dead) := by
  have hn : l.length ≠ 0 := by simpa using h0
  unfold austr
  split
  · rename_i h1 h2; cases h1
  · rename_i a n h1 h2
    cases h1
    cases h2
    simp only [Try.underlying50, hg, h]
    rw [if_pos ⟨trivial, trivial, trivial, trivial, by omega, by simp, by omega⟩]
    rw [Int.toNat_natCast, List.take_of_length_le (by simp), exact_cb]
    rfl
  · rename_i h1 h2
    exact absurd rfl (h2 _ _ rfl)
theorem u8_cells : Try.prog.cellsOf 5 = 1 := by kernel_rfl
theorem strg_spec {X : Outer} (hX : X 24 = none) {H0 H : Hp} {i : Nat} {l : List UInt8} (h : Bld H0 H i l) (hl : l.length ≤ 140737488355328) :
    Df Try.prog X 24 [.pointer (some ⟨i, 0, none⟩)] H fun r H' => r = .string ⟨l.toArray⟩ ∧ H0.next ≤ H'.next ∧ ∀ b, b < H0.next → H'.get b = H0.get b := by
  obtain ⟨h1, h2, h3, a, s, h4, h5, h6⟩ := h
  refine Df_text hX Try.func24 rfl (by kernel_rfl) (by show 1 ≤ _; decide) ?_
  rcases h6 with ⟨rfl, rfl⟩ | ⟨j, rfl, g2, g3, g4, g5, g6⟩
  · have hu : austr Try.prog 50 (.pointer none) (.int .i64 0) H = some (.string .empty, H) := by simp [austr]
    have hn : alen Try.prog 42 (.slice none 0 0) H = some (.int .i64 0) := ln42 H none 0 0
    simp -dsimp only [↓WP_seq, ↓WP_region, ↓WP_open, ↓DR_one, ↓DR_nil, ↓Step_assign, ↓Hold_1, With_some, ↓ae_string]
    refine Dc_any [[], [], [], [], [], [], [], [], [], [], [], []] (by kernel_rfl) (by kernel_rfl) ?_
    simp -dsimp only [↓WP_ret, ↓DF_one0, ↓DF_nil, ↓Step_move, ↓Step_assign, ↓Step_load, ↓Step_nilCheck, ↓Step_fieldAddr, ↓Step_len, ↓Hold_1, ↓Hold_3, With_some, ↓eget_eset, ↓ae_tmp, eget_zero, lop_nil, lop_len, light, ↓finish_ret, ↓ares_nil, ↓ares_tmp, ret1, Option.map_some, ↓reduceIte, Nat.reduceEqDiff, reduceCtorEq, Bool.false_eq_true, List.getElem?_cons_zero, List.getElem?_cons_succ, Nat.zero_add, true_and, List.toList_toArray, met_nil, List.reverse_cons, List.reverse_nil, List.nil_append, List.cons_append, cellAt, Try.results24, h4, fa44_1, ld42, Step_ustr, Step_data, adata, hu, hn]
    exact ⟨rfl, by omega, h3⟩
  · have hu := bytes_of u8_cells g5 hl g6
    have hj : j < H.next := g3
    have hl0 : l.length ≠ 0 := by simpa using g5
    obtain ⟨k, hk⟩ : ∃ k, l.length = k + 1 := ⟨l.length - 1, by omega⟩
    have hd : adata (.slice (some ⟨j, 0, none⟩) l.length 1) = some (.pointer (some ⟨j, 0, none⟩)) := by rw [hk]; rfl
    have hn : alen Try.prog 42 (.slice (some ⟨j, 0, none⟩) l.length 1) H = some (.int .i64 l.length) := ln42 H _ _ _
    simp -dsimp only [↓WP_seq, ↓WP_region, ↓WP_open, ↓DR_one, ↓DR_nil, ↓Step_assign, ↓Hold_1, With_some, ↓ae_string]
    refine Dc_any [[], [], [], [], [], [], [], [], [], [], [], []] (by kernel_rfl) (by kernel_rfl) ?_
    simp -dsimp only [↓WP_ret, ↓DF_one0, ↓DF_nil, ↓Step_move, ↓Step_assign, ↓Step_load, ↓Step_nilCheck, ↓Step_fieldAddr, ↓Step_len, ↓Hold_1, ↓Hold_3, With_some, ↓eget_eset, ↓ae_tmp, eget_zero, lop_nil, lop_len, light, ↓finish_ret, ↓ares_nil, ↓ares_tmp, ret1, Option.map_some, ↓reduceIte, Nat.reduceEqDiff, reduceCtorEq, Bool.false_eq_true, List.getElem?_cons_zero, List.getElem?_cons_succ, Nat.zero_add, true_and, List.toList_toArray, met_nil, List.reverse_cons, List.reverse_nil, List.nil_append, List.cons_append, get_put, next_put, cellAt, Try.results24, h4, fa44_1, ld42, Step_ustr, Step_data, hd, hu, hn]
    exact ⟨by omega, fun b hb => by rw [if_neg (by omega), h3 b hb]⟩
end Go.Proofs.Ytmdpggecelheoaa.Abs
/- What stands between two quotes: the program's walk over the plain heap, with strings.Builder. -/
set_option linter.unusedVariables false
set_option linter.unusedSimpArgs false
set_option maxRecDepth 4000
namespace Go.Proofs.Ytmdpggecelheoaa.Abs
open Go Go.RowKit
theorem alloc_bld {H : Hp} : Bld H (H.push (.cells true (bxT 44) [.pointer none, .slice none 0 0])) H.next [] :=
  ⟨Nat.le_refl _, by rw [next_push]; omega, fun b hb => by rw [get_push, if_neg (by omega)], none, .slice none 0 0, by rw [get_push, if_pos rfl], .inl rfl, .inl ⟨rfl, rfl⟩⟩
attribute [local irreducible] Hold DR DF Df Dc WP With
theorem quo_spec {X : Outer} (hX : X 21 = none) (hXw : X 23 = none) (hXc : X 26 = some cpG) (hXs : X 24 = none) {H : Hp} {s : ByteArray} {k : Nat} (hk : k < s.size) (hs : s.size ≤ 1000000) :
    Df Try.prog X 21 [.string s, .int .i64 k] H fun r H' => r = quoV (quoF s s.size (k + 1) []) ∧ H.next ≤ H'.next ∧ ∀ b, b < H.next → H'.get b = H.get b := by
  refine Df_text hX Try.func21 rfl (by kernel_rfl) (by show 2 ≤ _; decide) ?_
  have w1 : IntKind.i64.wrap ((k : Int) + 1) = (k : Int) + 1 := wrap_id (by omega) (by omega)
  simp -dsimp only [↓WP_seq, ↓WP_region, ↓WP_block, ↓WP_loop, ↓DR_one, ↓DR_nil, ↓Step_move, ↓Step_assign, ↓Step_binOp, ↓Hold_1, With_some, ↓eget_eset, ↓ae_tmp, ↓ae_int, ↓ae_bool, ↓ae_string, eget_zero, eget_succ, ↓reduceIte, Nat.reduceEqDiff, abin_add, al44, w1]
  refine Dc_loop (fun m e Hc => ∃ (q : Nat) (acc : List UInt8), q ≤ s.size ∧ s.size < q + m ∧ quoF s m q acc = quoF s s.size (k + 1) [] ∧ acc.length ≤ q ∧ eget e 0 = .string s ∧ eget e 1 = .int .i64 q ∧ eget e 7 = .pointer (some ⟨H.next, 0, none⟩) ∧ Bld H Hc H.next acc) s.size ?_ ?_
  · refine ⟨k + 1, [], by omega, by omega, rfl, by simp, ?_, ?_, ?_, alloc_bld⟩
    all_goals simp only [↓eget_eset, eget_zero, ↓reduceIte, Nat.reduceEqDiff, reduceCtorEq]
    rfl
  · rintro m e Hc ⟨q, acc, hq, hm, hF, hacc, e0, e1, e7, hb⟩
    refine WP_Dc _ _ _ _ ?_
    have hdec : ∀ b : Bool, decide ((q : Int) < (s.size : Int)) = b ↔ decide (q < s.size) = b := fun b => by simp
    rcases Nat.lt_or_ge q s.size with hlt | hge
    · obtain ⟨m, rfl⟩ : ∃ n, m = n + 1 := ⟨m - 1, by omega⟩
      have hqi : (q : Int) < (s.size : Int) := by omega
      have h0 : (0 : Int) ≤ (q : Int) := by omega
      obtain ⟨c, hc⟩ : ∃ c, s[q]? = some c := ⟨s[q], getElem?_pos s q hlt⟩
      have w2 : IntKind.i64.wrap ((q : Int) + 1) = (q : Int) + 1 := wrap_id (by omega) (by omega)
      by_cases hc4 : c = 34
      · subst hc4
        have hF' : quoF s (m + 1) q acc = if s[q + 1]? = some 34 then quoF s m (q + 2) (acc ++ [34]) else some (acc, q + 1) := by simp only [quoF, hc, if_true]
        rw [hF'] at hF
        have h1' : (0 : Int) ≤ (q : Int) + 1 := by omega
        have hn1 : ((q : Int) + 1).toNat = q + 1 := by omega
        have lit34 : ((34 : UInt8).toNat : Int) = 34 := rfl
        by_cases he : q + 1 = s.size
        · have hbe : (((q : Int) + 1) == (s.size : Int)) = true := by rw [beq_iff_eq]; omega
          have : s[q + 1]? = none := getElem?_neg s (q + 1) (by omega)
          rw [this, if_neg (by simp)] at hF
          simp -dsimp only [↓WP_seq, ↓WP_region, ↓WP_cond, ↓WP_ret, ↓WP_skip, ↓WP_block, ↓DR_one, ↓DR_nil, ↓Step_guard, ↓Step_move, ↓Step_pick, ↓Step_binOp, ↓Step_index, ↓Step_len, ↓Step_call, ↓Hold_1, ↓Hold_3, With_some, ↓eget_eset, ↓ae_tmp, ↓ae_int, ↓ae_bool, lop_pick, lop_len, asBool_bool, asGuard_bool, bb_tf, ayielded_eq, ↓dstAt_zero, ↓dstAt_succ, ↓finish_ret, ↓ares_nil, ↓ares_tmp, ret1, Option.map_some, Option.bind_some, ↓reduceIte, Nat.reduceEqDiff, reduceCtorEq, Bool.false_eq_true, decide_true, List.map_cons, List.map_nil, List.toList_toArray, abin_eql, abin_neq, abin_lss, abin_add, Int.toNat_natCast, decide_true, bb_tf, bne_self_eq_false, Try.results21, e0, e1, e7, ln9, ix9, hqi, h0, hc, w2, hbe, lit34, fk24]
          refine (strg_spec hXs hb (by omega)).mono ?_
          rintro r H2 ⟨rfl, n2, g2⟩
          simp -dsimp only [↓DR_one, ↓DR_nil, ↓Step_move, ↓Step_assign, ↓Step_binOp, ↓Hold_1, ↓Hold_2, With_some, ↓eget_eset, ↓ae_tmp, ↓ae_int, ↓ae_bool, ↓reduceIte, Nat.reduceEqDiff, abin_add, e1, w2]
          refine ⟨?_, n2, g2⟩
          rw [← hF]
          simp only [quoV]
          rfl
        · have hbe : (((q : Int) + 1) == (s.size : Int)) = false := by rw [beq_eq_false_iff_ne]; omega
          obtain ⟨d, hd⟩ : ∃ d, s[q + 1]? = some d := ⟨s[q + 1], getElem?_pos s (q + 1) (by omega)⟩
          by_cases hd4 : d = 34
          · subst hd4
            rw [hd, if_pos rfl] at hF
            have w3 : IntKind.i64.wrap ((q : Int) + 1 + 1) = (q : Int) + 1 + 1 := wrap_id (by omega) (by omega)
            simp -dsimp only [↓WP_seq, ↓WP_region, ↓WP_cond, ↓WP_skip, ↓WP_block, ↓DR_one, ↓DR_nil, ↓Step_guard, ↓Step_move, ↓Step_pick, ↓Step_binOp, ↓Step_index, ↓Step_len, ↓Step_call, ↓Hold_1, With_some, ↓eget_eset, ↓ae_tmp, ↓ae_int, lop_pick, lop_len, asBool_bool, asGuard_bool, ayielded_eq, ↓dstAt_zero, ↓dstAt_succ, Option.map_some, Option.bind_some, ↓reduceIte, Nat.reduceEqDiff, reduceCtorEq, Bool.false_eq_true, decide_true, List.map_cons, List.map_nil, abin_eql, abin_neq, abin_lss, abin_add, beq_self_eq_true, Int.toNat_natCast, decide_true, beq_self_eq_true, bne_self_eq_false, e0, e1, e7, ln9, ix9, hqi, h0, hc, w2, hbe, lit34, fk23, h1', hn1, hd]
            refine (wb_spec (b := 34) hXw hXc hb (by omega)).mono ?_
            rintro r H2 ⟨rfl, hb2⟩
            simp -dsimp only [↓DR_one, ↓DR_nil, ↓Step_assign, ↓Hold_1, ↓Hold_2, With_some, ↓eget_eset, ↓ae_tmp, ↓reduceIte, Nat.reduceEqDiff, reduceCtorEq, true_and, abin_add, e0, e1, e7, w2, w3]
            refine ⟨m, by omega, q + 2, acc ++ [34], by omega, by omega, hF, by simp; omega, ?_⟩
            first | exact hb2 | exact ⟨by congr 1, hb2⟩
          · have hne : ((d.toNat : Int) == 34) = false := by rw [beq_eq_false_iff_ne]; exact fun h => hd4 ((u8_lit d).1 h)
            rw [hd, if_neg (by simpa using hd4)] at hF
            simp -dsimp only [↓WP_seq, ↓WP_region, ↓WP_cond, ↓WP_ret, ↓WP_skip, ↓WP_block, ↓DR_one, ↓DR_nil, ↓Step_guard, ↓Step_move, ↓Step_pick, ↓Step_binOp, ↓Step_index, ↓Step_len, ↓Step_call, ↓Hold_1, ↓Hold_3, With_some, ↓eget_eset, ↓ae_tmp, ↓ae_int, lop_pick, lop_len, asBool_bool, asGuard_bool, ayielded_eq, ↓dstAt_zero, ↓dstAt_succ, ↓finish_ret, ↓ares_nil, ↓ares_tmp, ret1, Option.map_some, Option.bind_some, ↓reduceIte, Nat.reduceEqDiff, reduceCtorEq, Bool.false_eq_true, decide_true, Bool.not_true, Bool.not_false, List.map_cons, List.map_nil, List.toList_toArray, abin_eql, abin_neq, abin_lss, abin_add, beq_self_eq_true, Int.toNat_natCast, decide_true, beq_self_eq_true, Try.results21, e0, e1, e7, ln9, ix9, hqi, h0, hc, w2, hbe, lit34, fk24, h1', hn1, hd, bne, hne]
            refine (strg_spec hXs hb (by omega)).mono ?_
            rintro r H2 ⟨rfl, n2, g2⟩
            simp -dsimp only [↓DR_one, ↓DR_nil, ↓Step_move, ↓Step_assign, ↓Step_binOp, ↓Hold_1, ↓Hold_2, With_some, ↓eget_eset, ↓ae_tmp, ↓ae_int, ↓ae_bool, ↓reduceIte, Nat.reduceEqDiff, abin_add, e1, w2]
            refine ⟨?_, n2, g2⟩
            rw [← hF]
            simp only [quoV]
            rfl
      · have hne : ((c.toNat : Int) == 34) = false := by rw [beq_eq_false_iff_ne]; exact fun h => hc4 ((u8_lit c).1 h)
        have hF' : quoF s (m + 1) q acc = quoF s m (q + 1) (acc ++ [c]) := by simp only [quoF, hc, hc4, if_false]
        rw [hF'] at hF
        simp -dsimp only [↓WP_seq, ↓WP_region, ↓WP_cond, ↓WP_skip, ↓WP_block, ↓WP_exit, ↓DR_one, ↓DR_nil, ↓Step_move, ↓Step_binOp, ↓Step_index, ↓Step_len, ↓Step_call, ↓Hold_1, With_some, ↓eget_eset, ↓ae_tmp, ↓ae_int, lop_len, asBool_bool, Option.map_some, ↓reduceIte, Nat.reduceEqDiff, reduceCtorEq, decide_true, Bool.not_false, List.map_cons, List.map_nil, abin_neq, abin_lss, Int.toNat_natCast, decide_true, e0, e1, e7, ln9, ix9, hqi, h0, hc, bne, hne, fk23]
        refine (wb_spec (b := c) hXw hXc hb (by omega)).mono ?_
        rintro r H2 ⟨rfl, hb2⟩
        simp -dsimp only [↓DR_one, ↓DR_nil, ↓Step_assign, ↓Hold_1, ↓Hold_2, With_some, ↓eget_eset, ↓ae_tmp, ↓reduceIte, Nat.reduceEqDiff, reduceCtorEq, true_and, abin_add, e0, e1, e7, w2]
        refine ⟨m, by omega, q + 1, acc ++ [c], by omega, by omega, hF, by simp; omega, ?_⟩
        first | exact hb2 | exact ⟨by congr 1, hb2⟩
    · have hqi : ¬ (q : Int) < (s.size : Int) := by omega
      rw [quoF_none hge] at hF
      simp -dsimp only [↓WP_seq, ↓WP_region, ↓WP_cond, ↓WP_ret, ↓WP_exit, ↓DR_one, ↓DR_nil, ↓Step_move, ↓Step_assign, ↓Step_binOp, ↓Step_len, ↓Hold_1, ↓Hold_3, With_some, ↓eget_eset, ↓ae_tmp, ↓ae_int, ↓ae_bool, ↓ae_string, lop_len, asBool_bool, ↓finish_ret, ↓ares_nil, ↓ares_tmp, ret1, Option.map_some, ↓reduceIte, Nat.reduceEqDiff, reduceCtorEq, Bool.false_eq_true, decide_false, List.toList_toArray, abin_lss, decide_false, Try.results21, e0, e1, ln9, hqi]
      rw [← hF]
      refine ⟨rfl, ?_, ?_⟩
      · have := hb.1; have := hb.2.1; omega
      · exact hb.2.2.1
end Go.Proofs.Ytmdpggecelheoaa.Abs
/- The library's contracts at this program, printed by the shelf's own tool in plain words. -/
namespace Go.Proofs
open Go.Shelf
def Try.lays137_ren : Go.Shelf.Ren := ⟨fun | 137 => 25 | 217 => 27 | 266 => 29 | n => n, fun | 9 => 9 | 5 => 5 | 3 => 3 | n => n, fun | n => n⟩
theorem Try.lays137 : Go.Proofs.Lays.n137 Try.prog Try.lays137_ren := {
  mixed := by kernel_rfl
  f137 := Try.func25.trans (congrArg some (by kernel_rfl))
  f217 := Try.func27.trans (congrArg some (by kernel_rfl))
  f266 := Try.func29.trans (congrArg some (by kernel_rfl))
  t3 := Try.underlying3
  a3 := Try.isAgg3
  z3 := Try.sizeOf3
  v3 := Try.zeroValue3
  t5 := Try.underlying5
  a5 := Try.isAgg5
  z5 := Try.sizeOf5
  v5 := Try.zeroValue5
  t9 := Try.underlying9
  a9 := Try.isAgg9
  z9 := Try.sizeOf9
  v9 := Try.zeroValue9 }
def Try.lays217_ren : Go.Shelf.Ren := ⟨fun | 217 => 27 | 266 => 29 | n => n, fun | 9 => 9 | 5 => 5 | 3 => 3 | n => n, fun | n => n⟩
theorem Try.lays217 : Go.Proofs.Lays.n217 Try.prog Try.lays217_ren := {
  mixed := by kernel_rfl
  f217 := Try.func27.trans (congrArg some (by kernel_rfl))
  f266 := Try.func29.trans (congrArg some (by kernel_rfl))
  t3 := Try.underlying3
  a3 := Try.isAgg3
  z3 := Try.sizeOf3
  v3 := Try.zeroValue3
  t5 := Try.underlying5
  a5 := Try.isAgg5
  z5 := Try.sizeOf5
  v5 := Try.zeroValue5
  t9 := Try.underlying9
  a9 := Try.isAgg9
  z9 := Try.sizeOf9
  v9 := Try.zeroValue9 }
open Go.RowKit in
/-- strings.IndexByte: "IndexByte returns the index of the first instance of c in s, or -1 if c is not present in s.": IT RETURNS 'Lib.indexByte s c'; the world is as it was. (LAID: no walk: one application.) -/
theorem Try.strings_IndexByte (s : ByteArray) (c : Int) (w : World) :
    Calls Try.prog 25 #[.string s, .int .u8 c] w fun e w' => e = .returned (.int .i64 (Lib.indexByte s.data.toList c.toNat.toUInt8)) ∧ w' = w := Any.strings_IndexByte Try.lays137 s c w
open Go.RowKit Go.Lib in
/-- internal/stringslite.IndexByte (what strings.IndexByte calls): IT RETURNS 'Lib.indexByte s c'; the world is as it was. (LAID: no walk: one application.) -/
theorem Try.stringslite_IndexByte (s : ByteArray) (c : Int) (w : World) :
    Calls Try.prog 27 #[.string s, .int .u8 c] w fun e w' => e = .returned (.int .i64 (Lib.indexByte s.data.toList c.toNat.toUInt8)) ∧ w' = w := Any.stringslite_IndexByte Try.lays217 s c w
end Go.Proofs
