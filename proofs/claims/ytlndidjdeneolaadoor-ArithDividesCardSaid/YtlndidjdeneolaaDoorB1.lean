/- Bytes in this seat's program: conversions, and what is appended or told. -/
import Derived.Test.YtlndidjdeneolaaDoorA20
import Derived.Test.YtlndidjdeneolaaDoorTF
set_option linter.unusedVariables false
set_option linter.unusedSimpArgs false
set_option maxRecDepth 4000
namespace Go.Proofs.YtlndidjdeneolaaDoor.Abs
open Go
theorem cv_i8 (n : Int) (H : Hp) : aconv Tryd.prog 3 5 (.int .i64 n) H = some (.int .u8 (IntKind.u8.wrap n)) := aconv_ii Tryd.underlying3 Tryd.underlying5 n H
theorem cv_8i (n : Int) (H : Hp) : aconv Tryd.prog 5 3 (.int .u8 n) H = some (.int .i64 (IntKind.i64.wrap n)) := aconv_ii Tryd.underlying5 Tryd.underlying3 n H
theorem nel5 : elemT Tryd.prog 5 = none := by kernel_rfl
theorem nel3 : elemT Tryd.prog 3 = none := by kernel_rfl
theorem nel9 : elemT Tryd.prog 9 = none := by kernel_rfl
theorem lgt5 (a : TypeId) (x : Operand) : light Tryd.prog (.convert a 5 x) = true := by kernel_rfl
theorem lgt3 (a : TypeId) (x : Operand) : light Tryd.prog (.convert a 3 x) = true := by kernel_rfl
theorem lgt9 (a : TypeId) (x : Operand) : light Tryd.prog (.convert a 9 x) = true := by kernel_rfl
theorem gs24 (H : Hp) (s x : Value) : aappend Tryd.prog 24 9 s x H = (acells 1 x (alenOf x) H).bind fun new => agrow2 5 1 1 s (alenOf x) new H := aappend_eq el24 if24 (by kernel_rfl) s x
theorem own_tup {H : Hp} {el : TypeId} {sz : Nat} {v : Value} {ts : List (List Value)} (h : Own H el sz v ts) : isTup v = false ∧ v.cells = #[v] := by
  rcases h.2 with ⟨rfl, _⟩ | ⟨_, _, _, rfl, _⟩ <;> exact ⟨rfl, rfl⟩
theorem rb_tup {H : Hp} {el : TypeId} {v : Value} {l : List UInt8} (h : RB H el v l) : isTup v = false ∧ v.cells = #[v] := by
  rcases h with ⟨rfl, _⟩ | ⟨_, _, _, _, rfl, _⟩ <;> exact ⟨rfl, rfl⟩
theorem valB_step (l : List UInt8) (i : Nat) (h : i < l.length) : valB (l.take (i + 1)) = valB (l.take i) * 256 + l[i].toNat := by
  rw [← List.take_append_getElem h]
  simp only [valB, List.foldl_append, List.foldl_cons, List.foldl_nil]
theorem valB_lt (l : List UInt8) : valB l < 256 ^ l.length := by
  have key : ∀ i, i ≤ l.length → valB (l.take i) < 256 ^ i := by
    intro i
    induction i with
    | zero => intro _; simp [valB]
    | succ i ih =>
      intro hi
      rw [valB_step l i hi, Nat.pow_succ]
      have h1 := ih (by omega)
      have h2 := l[i].toNat_lt
      omega
  simpa using key l.length (Nat.le_refl _)
theorem cv_cb (b : UInt8) (H : Hp) : aconv Tryd.prog 5 3 (cb b) H = some (.int .i64 (b.toNat : Int)) := by
  unfold cb
  rw [cv_8i]
  have := b.toNat_lt
  rw [wrap_id (by omega) (by omega)]
theorem cvbs {H : Hp} {v : Value} {l : List UInt8} (h : RB H 5 v l) : aconv Tryd.prog 24 9 v H = some (.string ⟨l.toArray⟩) := aconv_bs Tryd.underlying24 Tryd.underlying5 Tryd.underlying9 h.ro
/-- Bytes that are told. -/
def OutB (H H' : Hp) (r : Value) (l : List UInt8) : Prop := H.next ≤ H'.next ∧ (∀ j, j < H.next → H'.get j = H.get j) ∧ Own H' 5 1 r (BV l) ∧ ∀ j, blkOf r = some j → H.next ≤ j
def AppTo (H H' : Hp) (v r : Value) (l' : List UInt8) : Prop := Own H' 5 1 r (BV l') ∧ H.next ≤ H'.next ∧ (∀ j, j < H.next → blkOf v ≠ some j → H'.get j = H.get j) ∧ ∀ j, blkOf r = some j → blkOf v = some j ∨ H.next ≤ j
theorem AppTo.trans {H H1 H2 : Hp} {v v1 r : Value} {l : List UInt8} (n1 : H.next ≤ H1.next) (f1 : ∀ j, j < H.next → blkOf v ≠ some j → H1.get j = H.get j) (b1 : ∀ j, blkOf v1 = some j → blkOf v = some j ∨ H.next ≤ j) (h : AppTo H1 H2 v1 r l) : AppTo H H2 v r l := by
  obtain ⟨h1, h2, h3, h4⟩ := h
  refine ⟨h1, by omega, fun j hj hv => ?_, fun j hj => ?_⟩
  · rw [h3 j (by omega) (fun h => (b1 j h).elim hv (by omega)), f1 j hj hv]
  · rcases h4 j hj with h | h
    · exact b1 j h
    · exact .inr (by omega)
theorem own_nil1 (H : Hp) : Own H 5 1 (.slice none 0 0) (BV []) := ⟨by simp [BV], .inl ⟨rfl, rfl⟩⟩
/-- A slice that was just built. -/
theorem own_new (H : Hp) (l : List UInt8) (hl : l ≠ []) : Own (H.push (.cells true 5 (l.map cb))) 5 1 (.slice (some ⟨H.next, 0, none⟩) l.length 1) (BV l) :=
  ⟨BV_one l, .inr ⟨H.next, 0, l.map cb, by rw [BV_len], by rw [next_push]; omega, by rw [get_push, if_pos rfl], by rw [BV_len]; simp, by rw [BV_len, BV_flat, List.drop_zero, List.take_of_length_le (by simp)]⟩⟩
theorem byteAt_nat {n : Int} (h0 : 0 ≤ n) (h1 : n < 256) : ((byteAt n 0).toNat : Int) = n := by
  obtain ⟨m, rfl⟩ := Int.eq_ofNat_of_zero_le h0
  have hm : m < 256 := by omega
  simp only [byteAt]
  have e : (((m : Int).fdiv (2 ^ (8 * 0))) % 256).toNat = m := by
    simp
    omega
  rw [e, UInt8.toNat_ofNat_of_lt' hm]
theorem valB_one (b : UInt8) : valB [b] = b.toNat := by simp [valB]
def strB (l : List UInt8) : ByteArray := ⟨l.toArray⟩
end Go.Proofs.YtlndidjdeneolaaDoor.Abs
