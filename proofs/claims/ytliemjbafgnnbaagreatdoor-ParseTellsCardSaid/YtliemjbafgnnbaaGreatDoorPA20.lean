/- Bytes: whole numbers cut into bytes, slices of bytes, and texts made of them. -/
import Derived.Test.YtliemjbafgnnbaaGreatDoorPA19
import Derived.Laws.Strings
set_option linter.unnecessarySimpa false
set_option linter.unusedSimpArgs false
set_option linter.unusedVariables false
namespace Go.Proofs.YtliemjbafgnnbaaGreatDoor.Abs
open Go Go.RowKit
section
variable {P : Program}
def cb (b : UInt8) : Value := .int .u8 (b.toNat : Int)
theorem za2b (b : UInt8) : (cb b).cells = #[cb b] := _root_.id rfl
theorem cb_tup (b : UInt8) : isTup (cb b) = false := _root_.id rfl
def BV (l : List UInt8) : List (List Value) := l.map fun b => [cb b]
theorem BV_len (l : List UInt8) : (BV l).length = l.length := by simp [BV]
theorem zay7 (l : List UInt8) : (BV l).flatten = l.map cb := by
 induction l with
 | nil => rfl
 | cons b l ih => simp only [BV, List.map_cons, List.flatten_cons] at ih ⊢; rw [ih]; rfl
theorem BV_app (l m : List UInt8) : BV (l ++ m) = BV l ++ BV m := by simp [BV]
theorem BV_one (l : List UInt8) : ∀ t ∈ BV l, t.length = 1 := by
 intro t h
 simp only [BV, List.mem_map] at h
 obtain ⟨b, _, rfl⟩ := h
 rfl
theorem Own.bytes {H : Hp} {el : TypeId} {v : Value} {l new : List UInt8} (h : Own H el 1 v (BV l)) (hb : l.length + new.length ≤ 140737488355328) :
    ∃ v' H', agrow2 el 1 1 v new.length (new.map cb) H = some (v', H') ∧ Own H' el 1 v' (BV (l ++ new)) ∧ H.next ≤ H'.next ∧ (∀ j, j < H.next → blkOf v ≠ some j → H'.get j = H.get j) ∧ ∀ j, blkOf v' = some j → blkOf v = some j ∨ H.next ≤ j := by
 by_cases h0 : new = []
 ·subst h0
  refine ⟨v, H, ?_, by simpa using h, Nat.le_refl _, fun _ _ _ => rfl, fun j hj => .inl hj⟩
  rcases h.2 with ⟨rfl, _⟩ | ⟨_, b, off, c, rfl, _⟩ <;> simp [agrow2]
 ·obtain ⟨H', a1, a2, a3, a4⟩ := h.append (bytes := 1) (news := BV new) (BV_one new) (by simpa [BV] using h0) (by rw [BV_len, BV_len]; omega) (by rw [BV_len, BV_len]; omega)
  rw [BV_len, BV_len, zay7] at a1
  rw [BV_len, BV_len, ← BV_app] at a2
  exact ⟨_, H', a1, a2, by omega, a4, fun j hj => by cases hj; exact .inr (Nat.le_refl _)⟩
def RB (H : Hp) (el : TypeId) (v : Value) (l : List UInt8) : Prop := (v = .slice none 0 0 ∧ l = []) ∨ ∃ o, SB o H el 1 v (BV l)
theorem RB.ro {H : Hp} {el : TypeId} {v : Value} {l : List UInt8} (h : RB H el v l) : RO H el 1 v (BV l) :=
 ⟨BV_one l, h.imp (fun h => ⟨by rw [h.2]; rfl, .inl h.1⟩) id⟩
theorem RB.frame {H H' : Hp} {el : TypeId} {v : Value} {l : List UInt8} (h : RB H el v l) (hn : H.next ≤ H'.next) (hg : ∀ j, j < H.next → blkOf v = some j → H'.get j = H.get j) : RB H' el v l :=
 h.imp id fun ⟨o, h⟩ => ⟨o, h.frame hn hg⟩
theorem RB.blk {H : Hp} {el : TypeId} {v : Value} {l : List UInt8} (h : RB H el v l) {j : Nat} (hj : blkOf v = some j) : j < H.next := by
 rcases h with ⟨rfl, _⟩ | ⟨o, b, off, c, rfl, h2, _⟩
 ·cases hj
 ·cases hj; exact h2
theorem RB.val {H : Hp} {el : TypeId} {v : Value} {l : List UInt8} (h : RB H el v l) : ∃ p c, v = .slice p l.length c := by
 obtain ⟨p, c, hv⟩ := h.ro.val
 exact ⟨p, c, by rw [hv, BV_len]⟩
theorem RB.split {t el : TypeId} (he : elemT P t = some el) (hz : szT P el = some 1) {H : Hp} {v : Value} {l : List UInt8} (h : RB H el v l) {k : Nat} (hk : k ≤ l.length) {kd kd' : IntKind} :
    ∃ v1 v2, aslice P t v none (some (.int kd k)) none = some v1 ∧ aslice P t v (some (.int kd' k)) none none = some v2 ∧ RB H el v1 (l.take k) ∧ RB H el v2 (l.drop k) ∧ (∀ j, blkOf v1 = some j → blkOf v = some j) ∧ ∀ j, blkOf v2 = some j → blkOf v = some j := by
 rcases h with ⟨rfl, rfl⟩ | ⟨o, hsb⟩
 ·have : k = 0 := by simpa using hk
  subst this
  refine ⟨.slice none 0 0, .slice none 0 0, ?_, ?_, .inl ⟨rfl, rfl⟩, .inl ⟨rfl, rfl⟩, fun j h => h, fun j h => h⟩ <;> (rw [zamz he hz]; rfl)
 ·obtain ⟨b, off, hv, hd⟩ := hsb.drop (BV_one l) k (by rw [BV_len]; exact hk)
  obtain ⟨b', off', c, h1, h2, h3, h4, h5⟩ := hsb
  rw [h1] at hv
  cases hv
  subst h1
  rw [BV_len] at *
  refine ⟨.slice (some ⟨b, off, none⟩) k 1, .slice (some ⟨b, off + k * 1, none⟩) (l.length - k) 1, ?_, ?_, .inr ⟨o, b, off, c, ?_, h2, h3, ?_, ?_⟩, .inr ⟨o, ?_⟩, fun j h => h, fun j h => h⟩
  ·rw [zaf1 he hz]
   simp only [abound, Option.bind_some]
   rw [if_pos (by omega)]
   simp
  ·rw [zaf1 he hz]
   simp only [abound, Option.bind_some]
   rw [if_pos (by omega)]
   simp
  ·rw [BV_len, List.length_take, Nat.min_eq_left hk]
  ·rw [BV_len, List.length_take, Nat.min_eq_left hk]; omega
  ·rw [BV_len, List.length_take, Nat.min_eq_left hk]
   rw [zay7] at h5 ⊢
   rw [List.map_take, ← h5, List.take_take]
   congr 1
   omega
  ·have e : BV (l.drop k) = (BV l).drop k := by simp [BV]
   rw [e]; exact hd
theorem RB.at {H : Hp} {el : TypeId} {v : Value} {l : List UInt8} (h : RB H el v l) {j : Nat} (hj : j < l.length) :
    ∃ b off, v = .slice (some ⟨b, off, none⟩) l.length 1 ∧ cellAt H ⟨b, off + j * 1, none⟩ = some (cb l[j]) := by
 obtain ⟨b, off, c, o, h1, h2, h3, h4, h5⟩ := h.ro.at (j := j) (by rw [BV_len]; exact hj)
 have := zaxf h3 h5 0 (by omega)
 rw [Nat.add_zero] at this
 refine ⟨b, off, by rw [h1, BV_len], ?_⟩
 rw [this]
 simp [BV]
end
end Go.Proofs.YtliemjbafgnnbaaGreatDoor.Abs
