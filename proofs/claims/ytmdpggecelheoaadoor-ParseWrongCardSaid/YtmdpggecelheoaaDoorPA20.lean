/- Bytes: whole numbers cut into bytes, slices of bytes, and texts made of them. -/
import Derived.Test.YtmdpggecelheoaaDoorPA19
import Derived.Laws.Strings
set_option linter.unusedVariables false
set_option linter.unusedSimpArgs false
namespace Go.Proofs.YtmdpggecelheoaaDoor.Abs
open Go Go.RowKit
section
variable {P : Program}
/-! ### Whole numbers -/
theorem abin_or {t : TypeId} {x y : Operand} {k : IntKind} {a b : Int} : abin P .or t x y (.int k a) (.int k b) = some (.int k (k.wrap ((BitVec.ofInt k.bits a ||| BitVec.ofInt k.bits b).toNat : Int))) := by cases k <;> rfl
theorem abin_and {t : TypeId} {x y : Operand} {k : IntKind} {a b : Int} : abin P .and t x y (.int k a) (.int k b) = some (.int k (k.wrap ((BitVec.ofInt k.bits a &&& BitVec.ofInt k.bits b).toNat : Int))) := by cases k <;> rfl
theorem abin_shl {t : TypeId} {x y : Operand} {k l : IntKind} {a b : Int} (hb : ¬ b < 0) : abin P .shl t x y (.int k a) (.int l b) = some (.int k (k.wrap (a * 2 ^ min b.toNat k.bits))) := by
  have h : pureRun P (Op.shift .shl k a l b) = some (.int k (k.wrap (a * 2 ^ min b.toNat k.bits))) := by
    unfold Op.shift
    rw [if_neg hb]
    rfl
  show onlyFlat (pureRun P (Op.shift .shl k a l b)) = _
  rw [h]
  rfl
theorem abin_shr {t : TypeId} {x y : Operand} {k l : IntKind} {a b : Int} (hb : ¬ b < 0) : abin P .shr t x y (.int k a) (.int l b) = some (.int k (a.fdiv (2 ^ min b.toNat k.bits))) := by
  have h : pureRun P (Op.shift .shr k a l b) = some (.int k (a.fdiv (2 ^ min b.toNat k.bits))) := by
    unfold Op.shift
    rw [if_neg hb]
    rfl
  show onlyFlat (pureRun P (Op.shift .shr k a l b)) = _
  rw [h]
  rfl
theorem abin_shl8 {t : TypeId} {x y : Operand} {l : IntKind} {a : Int} : abin P .shl t x y (.int .i64 a) (.int l 8) = some (.int .i64 (IntKind.i64.wrap (a * 256))) := by
  rw [abin_shl (by omega)]; rfl
theorem abin_shr8 {t : TypeId} {x y : Operand} {l : IntKind} {a : Int} : abin P .shr t x y (.int .i64 a) (.int l 8) = some (.int .i64 (a.fdiv 256)) := by
  rw [abin_shr (by omega)]; rfl
theorem pureRun_bind {α β : Type} (f : α → Sem β) : ∀ (s : Sem α), pureRun P (s.bind f) = (pureRun P s).bind fun a => pureRun P (f a) := by
  intro s
  induction s with
  | pure b => rfl
  | program k ih => exact ih P
  | _ => rfl
theorem pureRun_und {t : TypeId} {d : TypeDesc} (h : P.underlying t = some d) : pureRun P (Go.underlying t) = some d := by
  show pureRun P (match P.underlying t with | some d => Sem.pure d | none => stuck "no such type") = _
  rw [h]; rfl
theorem aconv_ii {s t : TypeId} {k l : IntKind} (hs : P.underlying s = some (.int k)) (ht : P.underlying t = some (.int l)) (n : Int) (H : Hp) : aconv P s t (.int k n) H = some (.int l (l.wrap n)) := by
  simp only [aconv, hs, ht, flat, if_true]
  have : pureRun P (Go.convert s t (.int k n)) = some (.int l (l.wrap n)) := by
    unfold Go.convert
    show pureRun P (Sem.bind (Go.underlying s) _) = _
    rw [pureRun_bind, pureRun_und hs, Option.bind_some]
    show pureRun P (Sem.bind (Go.underlying t) _) = _
    rw [pureRun_bind, pureRun_und ht, Option.bind_some]
    rfl
  rw [this]; rfl

/-! ### Bytes -/
def cb (b : UInt8) : Value := .int .u8 (b.toNat : Int)
theorem cb_cells (b : UInt8) : (cb b).cells = #[cb b] := _root_.id rfl
theorem cb_tup (b : UInt8) : isTup (cb b) = false := _root_.id rfl
theorem wrap8 (n : Int) : Value.int .u8 (IntKind.u8.wrap n) = cb (UInt8.ofNat (n % 256).toNat) := by
  have h : ((n % 256).toNat : Int) = n % 256 := by omega
  have h2 : (n % 256).toNat < 256 := by omega
  simp only [cb, IntKind.wrap, IntKind.bits, IntKind.signed]
  simp
  omega
theorem cb_of {n : Nat} (h : n < 256) : Value.int .u8 (n : Int) = cb (UInt8.ofNat n) := by
  simp only [cb, UInt8.toNat_ofNat_of_lt' h]
/-- The byte of a number, so many bytes from its end. -/
def byteAt (n : Int) (i : Nat) : UInt8 := UInt8.ofNat ((n.fdiv (2 ^ (8 * i))) % 256).toNat
def numB (n : Int) : Nat → List UInt8
  | 0 => []
  | k + 1 => byteAt n k :: numB n k
theorem numB_len (n : Int) : ∀ k, (numB n k).length = k
  | 0 => rfl
  | k + 1 => by simp [numB, numB_len n k]
/-- A number out of bytes. -/
def valB (l : List UInt8) : Nat := l.foldl (fun n c => n * 256 + c.toNat) 0
theorem or_byte {a c : Nat} (ha : a * 256 < 9223372036854775808) (hc : c < 256) : IntKind.i64.wrap ((BitVec.ofInt 64 ((a : Int) * 256) ||| BitVec.ofInt 64 (c : Int)).toNat : Int) = ((a * 256 + c : Nat) : Int) := by
  have e1 : BitVec.ofInt 64 ((a : Int) * 256) = BitVec.ofNat 64 (a * 256) := by
    rw [show ((a : Int) * 256) = ((a * 256 : Nat) : Int) by simp]; exact BitVec.ofInt_natCast ..
  have e2 : BitVec.ofInt 64 (c : Int) = BitVec.ofNat 64 c := BitVec.ofInt_natCast ..
  rw [e1, e2, BitVec.toNat_or, BitVec.toNat_ofNat, BitVec.toNat_ofNat, Nat.mod_eq_of_lt (by omega), Nat.mod_eq_of_lt (by omega)]
  have e3 : a * 256 ||| c = a * 256 + c := by
    rw [show a * 256 = a <<< 8 by simp [Nat.shiftLeft_eq]]
    exact (Nat.shiftLeft_add_eq_or_of_lt (by simpa using hc) a).symm
  rw [e3]
  exact wrap_id (by omega) (by omega)
/-! ### Slices of bytes -/
def BV (l : List UInt8) : List (List Value) := l.map fun b => [cb b]
theorem BV_len (l : List UInt8) : (BV l).length = l.length := by simp [BV]
theorem BV_flat (l : List UInt8) : (BV l).flatten = l.map cb := by
  induction l with
  | nil => rfl
  | cons b l ih => simp only [BV, List.map_cons, List.flatten_cons] at ih ⊢; rw [ih]; rfl
theorem BV_app (l m : List UInt8) : BV (l ++ m) = BV l ++ BV m := by simp [BV]
theorem BV_one (l : List UInt8) : ∀ t ∈ BV l, t.length = 1 := by
  intro t h
  simp only [BV, List.mem_map] at h
  obtain ⟨b, _, rfl⟩ := h
  rfl
/-- Appended: a slice of one's own, behind it. -/
theorem Own.bytes {H : Hp} {el : TypeId} {v : Value} {l new : List UInt8} (h : Own H el 1 v (BV l)) (hb : l.length + new.length ≤ 140737488355328) :
    ∃ v' H', agrow2 el 1 1 v new.length (new.map cb) H = some (v', H') ∧ Own H' el 1 v' (BV (l ++ new)) ∧ H.next ≤ H'.next ∧ (∀ j, j < H.next → blkOf v ≠ some j → H'.get j = H.get j) ∧ ∀ j, blkOf v' = some j → blkOf v = some j ∨ H.next ≤ j := by
  by_cases h0 : new = []
  · subst h0
    refine ⟨v, H, ?_, by simpa using h, Nat.le_refl _, fun _ _ _ => rfl, fun j hj => .inl hj⟩
    rcases h.2 with ⟨rfl, _⟩ | ⟨_, b, off, c, rfl, _⟩ <;> simp [agrow2]
  · obtain ⟨H', a1, a2, a3, a4⟩ := h.append (bytes := 1) (news := BV new) (BV_one new) (by simpa [BV] using h0) (by rw [BV_len, BV_len]; omega) (by rw [BV_len, BV_len]; omega)
    rw [BV_len, BV_len, BV_flat] at a1
    rw [BV_len, BV_len, ← BV_app] at a2
    exact ⟨_, H', a1, a2, by omega, a4, fun j hj => by cases hj; exact .inr (Nat.le_refl _)⟩
/-! ### Texts -/
def sb (s : ByteArray) : List UInt8 := s.data.toList
theorem sb_len (s : ByteArray) : (sb s).length = s.size := by
  simp only [sb, Array.length_toList]; rfl
theorem sb_mk (l : List UInt8) : sb ⟨l.toArray⟩ = l := rfl
theorem mk_sb (s : ByteArray) : (⟨(sb s).toArray⟩ : ByteArray) = s := rfl
theorem acells_str (s : ByteArray) (H : Hp) : acells 1 (.string s) (alenOf (.string s)) H = some ((sb s).map cb) := by
  simp only [acells, if_true, alenOf]
  rw [List.take_of_length_le (by rw [Array.length_toList]; exact Nat.le_refl _)]
  rfl
theorem bytesOfCells_cb : ∀ l : List UInt8, bytesOfCells (l.map cb) = some l
  | [] => rfl
  | b :: l => by
    simp only [List.map_cons, cb, bytesOfCells]
    rw [bytesOfCells_cb l]
    simp
theorem cellsAt_zero (H : Hp) (a : Addr) : cellsAt H a 0 = some [] := by simp [cellsAt]
theorem aconv_bs {s t e : TypeId} (hs : P.underlying s = some (.slice e)) (he : P.underlying e = some (.int .u8)) (ht : P.underlying t = some .string) {H : Hp} {el : TypeId} {v : Value} {l : List UInt8} (h : RO H el 1 v (BV l)) :
    aconv P s t v H = some (.string ⟨l.toArray⟩) := by
  rcases h.2 with ⟨h0, rfl | ⟨a, rfl⟩⟩ | ⟨o, hsb⟩
  · have : l = [] := by simpa [BV] using h0
    subst this
    simp only [aconv, hs, ht, he]; rfl
  · have : l = [] := by simpa [BV] using h0
    subst this
    simp only [aconv, hs, ht, he, cellsAt_zero]; rfl
  · obtain ⟨b, off, rfl, hc⟩ := hsb.cells
    rw [BV_len, Nat.mul_one, BV_flat] at hc
    simp only [aconv, hs, ht, he, BV_len, hc, Option.bind_some, bytesOfCells_cb, Option.map_some]
/-! ### Slices of bytes that are read -/
def RB (H : Hp) (el : TypeId) (v : Value) (l : List UInt8) : Prop := (v = .slice none 0 0 ∧ l = []) ∨ ∃ o, SB o H el 1 v (BV l)
theorem RB.ro {H : Hp} {el : TypeId} {v : Value} {l : List UInt8} (h : RB H el v l) : RO H el 1 v (BV l) :=
  ⟨BV_one l, h.imp (fun h => ⟨by rw [h.2]; rfl, .inl h.1⟩) id⟩
theorem Own.rb {H : Hp} {el : TypeId} {v : Value} {l : List UInt8} (h : Own H el 1 v (BV l)) : ∃ tg, RB H tg v l := by
  rcases h.2 with h | ⟨tg, h⟩
  · exact ⟨el, .inl ⟨h.1, by simpa [BV] using h.2⟩⟩
  · exact ⟨tg, .inr ⟨true, h⟩⟩
theorem RB.frame {H H' : Hp} {el : TypeId} {v : Value} {l : List UInt8} (h : RB H el v l) (hn : H.next ≤ H'.next) (hg : ∀ j, j < H.next → blkOf v = some j → H'.get j = H.get j) : RB H' el v l :=
  h.imp id fun ⟨o, h⟩ => ⟨o, h.frame hn hg⟩
theorem RB.blk {H : Hp} {el : TypeId} {v : Value} {l : List UInt8} (h : RB H el v l) {j : Nat} (hj : blkOf v = some j) : j < H.next := by
  rcases h with ⟨rfl, _⟩ | ⟨o, b, off, c, rfl, h2, _⟩
  · cases hj
  · cases hj; exact h2
theorem RB.val {H : Hp} {el : TypeId} {v : Value} {l : List UInt8} (h : RB H el v l) : ∃ p c, v = .slice p l.length c := by
  obtain ⟨p, c, hv⟩ := h.ro.val
  exact ⟨p, c, by rw [hv, BV_len]⟩
theorem RB.split {t el : TypeId} (he : elemT P t = some el) (hz : szT P el = some 1) {H : Hp} {v : Value} {l : List UInt8} (h : RB H el v l) {k : Nat} (hk : k ≤ l.length) {kd kd' : IntKind} :
    ∃ v1 v2, aslice P t v none (some (.int kd k)) none = some v1 ∧ aslice P t v (some (.int kd' k)) none none = some v2 ∧ RB H el v1 (l.take k) ∧ RB H el v2 (l.drop k) ∧ (∀ j, blkOf v1 = some j → blkOf v = some j) ∧ ∀ j, blkOf v2 = some j → blkOf v = some j := by
  rcases h with ⟨rfl, rfl⟩ | ⟨o, hsb⟩
  · have : k = 0 := by simpa using hk
    subst this
    refine ⟨.slice none 0 0, .slice none 0 0, ?_, ?_, .inl ⟨rfl, rfl⟩, .inl ⟨rfl, rfl⟩, fun j h => h, fun j h => h⟩ <;> (rw [aslice_nil he hz]; rfl)
  · obtain ⟨b, off, hv, hd⟩ := hsb.drop (BV_one l) k (by rw [BV_len]; exact hk)
    obtain ⟨b', off', c, h1, h2, h3, h4, h5⟩ := hsb
    rw [h1] at hv
    cases hv
    subst h1
    rw [BV_len] at *
    refine ⟨.slice (some ⟨b, off, none⟩) k 1, .slice (some ⟨b, off + k * 1, none⟩) (l.length - k) 1, ?_, ?_, .inr ⟨o, b, off, c, ?_, h2, h3, ?_, ?_⟩, .inr ⟨o, ?_⟩, fun j h => h, fun j h => h⟩
    · rw [aslice_slice he hz]
      simp only [abound, Option.bind_some]
      rw [if_pos (by omega)]
      simp
    · rw [aslice_slice he hz]
      simp only [abound, Option.bind_some]
      rw [if_pos (by omega)]
      simp
    · rw [BV_len, List.length_take, Nat.min_eq_left hk]
    · rw [BV_len, List.length_take, Nat.min_eq_left hk]; omega
    · rw [BV_len, List.length_take, Nat.min_eq_left hk]
      rw [BV_flat] at h5 ⊢
      rw [List.map_take, ← h5, List.take_take]
      congr 1
      omega
    · have e : BV (l.drop k) = (BV l).drop k := by simp [BV]
      rw [e]; exact hd
theorem RB.at {H : Hp} {el : TypeId} {v : Value} {l : List UInt8} (h : RB H el v l) {j : Nat} (hj : j < l.length) :
    ∃ b off, v = .slice (some ⟨b, off, none⟩) l.length 1 ∧ cellAt H ⟨b, off + j * 1, none⟩ = some (cb l[j]) := by
  obtain ⟨b, off, c, o, h1, h2, h3, h4, h5⟩ := h.ro.at (j := j) (by rw [BV_len]; exact hj)
  have := cellAt_in h3 h5 0 (by omega)
  rw [Nat.add_zero] at this
  refine ⟨b, off, by rw [h1, BV_len], ?_⟩
  rw [this]
  simp [BV]
end
end Go.Proofs.YtmdpggecelheoaaDoor.Abs
