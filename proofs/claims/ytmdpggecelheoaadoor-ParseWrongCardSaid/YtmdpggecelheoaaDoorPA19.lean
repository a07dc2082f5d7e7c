/- Arguments without addresses, cell by cell; arguments of a call, opened one behind the other. -/
import Derived.Test.YtmdpggecelheoaaDoorPA18
import Derived.WalkKit
import Derived.ProofKit
import Derived.OpenShut
import Derived.ShutString
import Derived.ChangeOld
import Derived.Below
import Derived.SizedLaws
set_option linter.unusedVariables false
set_option linter.unusedSimpArgs false
namespace Go.Proofs.YtmdpggecelheoaaDoor.Abs
open Go Go.RowKit

inductive Sh where
  | bool
  | int (k : IntKind)
  | str
def Sh.ok : Sh → Value → Prop
  | .bool, v => ∃ b, v = .bool b
  | .int k, v => ∃ n, v = .int k n ∧ (Lit.int k n).wf = true
  | .str, v => ∃ s, v = .string s ∧ s.size ≤ 9223372036854775807
def shapes : List Sh → List Value → Prop
  | [], [] => True
  | s :: l, v :: vs => s.ok v ∧ shapes l vs
  | _, _ => False
theorem shapes_append : ∀ (l m : List Sh) (a b : List Value), shapes l a → shapes m b → shapes (l ++ m) (a ++ b)
  | [], m, [], b, _, h => h
  | s :: l, m, v :: a, b, h, k => ⟨h.1, shapes_append l m a b h.2 k⟩
  | [], _, _ :: _, _, h, _ => h.elim
  | _ :: _, _, [], _, h, _ => h.elim
theorem shapes_len : ∀ (l : List Sh) (a : List Value), shapes l a → a.length = l.length
  | [], [], _ => rfl
  | s :: l, v :: a, h => by simp [shapes_len l a h.2]
  | [], _ :: _, h => h.elim
  | _ :: _, [], h => h.elim
theorem shapes_cons {s : Sh} {l : List Sh} : ∀ {a : List Value}, shapes (s :: l) a → ∃ v a', a = v :: a' ∧ s.ok v ∧ shapes l a'
  | [], h => h.elim
  | v :: a, h => ⟨v, a, rfl, h.1, h.2⟩
theorem shapes_nil : ∀ {a : List Value}, shapes [] a → a = []
  | [], _ => rfl
  | _ :: _, h => h.elim
def RSh (l : List Sh) : Hp → List Value → List Value → Prop := fun _ x cs => x = cs ∧ shapes l cs
theorem RSh.mono (l : List Sh) : Mono (RSh l) := fun _ _ _ _ _ h => h
section
variable {P : Program}
def OpensA (P : Program) (t : TypeId) {α : Type} (R : Hp → α → List Value → Prop) : Prop := ∀ n, Opens P t n R
theorem opens_zero {t : TypeId} {α : Type} (R : Hp → α → List Value → Prop) : Opens P t 0 R := by
  intro Hh enc W cs d ps hd
  simp [DataW.trod] at hd
theorem Opens.map {t : TypeId} {n : Nat} {α β : Type} {R : Hp → α → List Value → Prop} {S : Hp → β → List Value → Prop} (h : Opens P t n R) (k : ∀ H x cs, R H x cs → ∃ y, S H y cs) : Opens P t n S := by
  intro Hh enc W cs d ps hd φ H hR
  obtain ⟨ψ, H', acs, x, h1, h2, h3, h4, h5, h6⟩ := h enc W cs d ps hd φ H hR
  obtain ⟨y, hy⟩ := k _ _ _ h6
  exact ⟨ψ, H', acs, y, h1, h2, h3, h4, h5, hy⟩
theorem opensF_nil {total n : Nat} : OpensF P [] total total n (RSh []) := by
  intro Hh enc W cs xs hl hx φ H hR
  refine ⟨φ, H, [], [], Plan.le_refl φ, Hp.le_refl H, hR, ?_, ?_, rfl, trivial⟩
  · rw [List.drop_of_length_le (by omega)]; exact .nil φ
  · rw [List.drop_of_length_le (by omega)]; simp
theorem OpensF.map {fs : List Field} {off total n : Nat} {α β : Type} {R : Hp → α → List Value → Prop} {S : Hp → β → List Value → Prop} (h : OpensF P fs off total n R) (k : ∀ H x cs, R H x cs → ∃ y, S H y cs) : OpensF P fs off total n S := by
  intro Hh enc W cs xs hl hx φ H hR
  obtain ⟨ψ, H', acs, x, h1, h2, h3, h4, h5, h6⟩ := h enc W cs xs hl hx φ H hR
  obtain ⟨y, hy⟩ := k _ _ _ h6
  exact ⟨ψ, H', acs, y, h1, h2, h3, h4, h5, hy⟩
/-- The cells of a type without addresses. -/
def shapeF (P : Program) (sh : TypeId → Option (List Sh)) (total : Nat) : List Field → Nat → Option (List Sh)
  | [], off => if off = total then some [] else none
  | f :: fs, off => (sh f.type).bind fun l => if f.offset = off ∧ P.cellsOf f.type = l.length ∧ off + l.length ≤ total then (shapeF P sh total fs (off + l.length)).map fun m => l ++ m else none
def shapeT (P : Program) : Nat → TypeId → Option (List Sh)
  | 0, _ => none
  | d + 1, t => match P.underlying t with
    | some .bool => some [.bool]
    | some (.int k) => some [.int k]
    | some .string => some [.str]
    | some (.struct fs) => shapeF P (shapeT P d) (P.cellsOf t) fs.toList 0
    | _ => none
theorem opens_shape : ∀ (d : Nat) (t : TypeId) (l : List Sh), shapeT P d t = some l → OpensA P t (RSh l) := by
  intro d
  induction d with
  | zero => intro t l h; simp [shapeT] at h
  | succ d ih =>
    intro t l h n
    simp only [shapeT] at h
    split at h
    · rename_i hu; cases h
      exact Opens.map (R := RBool) (opens_bool hu n) fun H x cs hx => ⟨cs, rfl, by rw [show cs = [.bool x] from hx]; exact ⟨⟨x, rfl⟩, trivial⟩⟩
    · rename_i k hu; cases h
      exact Opens.map (R := RInt k) (opens_int hu n) fun H x cs hx => ⟨cs, rfl, by rw [hx.1]; exact ⟨⟨x, rfl, hx.2⟩, trivial⟩⟩
    · rename_i hu; cases h
      exact Opens.map (R := RStr) (opens_str hu n) fun H x cs hx => ⟨cs, rfl, by rw [hx.1]; exact ⟨⟨x, rfl, hx.2⟩, trivial⟩⟩
    · rename_i fs hu
      cases n with
      | zero => exact opens_zero _
      | succ n =>
        refine opens_struct hu rfl ?_
        have key : ∀ (fs : List Field) (off : Nat) (m : List Sh), shapeF P (shapeT P d) (P.cellsOf t) fs off = some m → OpensF P fs off (P.cellsOf t) n (RSh m) := by
          intro fs
          induction fs with
          | nil =>
            intro off m hm
            simp only [shapeF] at hm
            split at hm
            · rename_i ho; cases hm; rw [ho]; exact opensF_nil
            · cases hm
          | cons f fs ihf =>
            intro off m hm
            simp only [shapeF, Option.bind_eq_some_iff] at hm
            obtain ⟨l1, hl1, hm⟩ := hm
            split at hm
            · rename_i hc
              simp only [Option.map_eq_some_iff] at hm
              obtain ⟨m1, hm1, rfl⟩ := hm
              refine OpensF.map (R := RCons (RSh l1) (RSh m1)) (opensF_cons (ih _ _ hl1 n) (RSh.mono l1) (ihf _ _ hm1) hc.1 hc.2.1 hc.2.2) ?_
              rintro H ⟨x, y⟩ cs ⟨c1, c2, rfl, ⟨rfl, h1⟩, ⟨rfl, h2⟩⟩
              exact ⟨_, rfl, shapes_append _ _ _ _ h1 h2⟩
            · cases hm
        exact @key _ _ _ h
    · cases h
theorem opensA_slice {t e : TypeId} {sz : Nat} {α : Type} {R : Hp → α → List Value → Prop} (h : P.underlying t = some (.slice e)) (hc : P.cellsOf e = sz) (hz : 0 < sz) (ho : OpensA P e R) (hm : Mono R) : OpensA P t (RSlice e sz R) := by
  intro n
  cases n with
  | zero => exact opens_zero _
  | succ n => exact opens_slice h hc hz (ho n) hm
/-- An argument of one cell. -/
theorem arg_cell {Hh : Type} {enc : TypeId × Value → Hh} {W : World} {t : TypeId} {v : Value} {d : DataW Hh} {ps : List MemPlace} {α : Type} {R : Hp → α → List Value → Prop} (ho : OpensA P t R) (h : DataW.Trod enc P W 0 (fun _ => true) true t v d ps) (hv : v.cells = #[v])
    {φ : Plan} {H : Hp} (hR : Rel W.heap.size W φ H W) : ∃ ψ H' a x, φ.le ψ ∧ H.le H' ∧ Rel W.heap.size W ψ H' W ∧ VR ψ a v ∧ R H' x [a] := by
  obtain ⟨n, hn⟩ := h
  rw [hv] at hn
  obtain ⟨ψ, H', acs, x, h1, h2, h3, h4, h5, h6⟩ := ho n enc W _ _ _ hn φ H hR
  have hl : acs.length = 1 := h4.1
  obtain ⟨a, rfl⟩ : ∃ a, acs = [a] := by
    match acs, hl with
    | [a], _ => exact ⟨a, rfl⟩
  exact ⟨ψ, H', a, x, h1, h2, h3, h4.2 0, h6⟩
/-- An argument of many cells. -/
theorem arg_agg {Hh : Type} {enc : TypeId × Value → Hh} {W : World} {t : TypeId} {cs : Array Value} {d : DataW Hh} {ps : List MemPlace} {α : Type} {R : Hp → α → List Value → Prop} (ho : OpensA P t R) (h : DataW.Trod enc P W 0 (fun _ => true) true t (.agg cs) d ps)
    {φ : Plan} {H : Hp} (hR : Rel W.heap.size W φ H W) : ∃ ψ H' acs x, φ.le ψ ∧ H.le H' ∧ Rel W.heap.size W ψ H' W ∧ VR ψ (.agg acs.toArray) (.agg cs) ∧ R H' x acs := by
  obtain ⟨n, hn⟩ := h
  obtain ⟨ψ, H', acs, x, h1, h2, h3, h4, h5, h6⟩ := ho n enc W _ _ _ hn φ H hR
  refine ⟨ψ, H', acs, x, h1, h2, h3, .agg _ _ (by simpa [Value.cells] using h4.1) (fun v hv => h5 v (by simpa [Value.cells] using hv)) fun i => ?_, h6⟩
  have := h4.2 i
  simpa [Value.cells, Array.getD_eq_getD_getElem?, List.getD_eq_getElem?_getD] using this
theorem VRs_one {φ : Plan} {a v : Value} (h : VR φ a v) : VRs φ [a] [v] := .cons h (.nil φ)
/-- A slice that is read, out of what opens. -/
theorem ro_of {H : Hp} {e : TypeId} {sz : Nat} {l : List Sh} {xs : List (List Value)} {v : Value} (h : RSlice e sz (RSh l) H xs [v]) (hz : l.length = sz) : RO H e sz v xs ∧ (∀ x ∈ xs, shapes l x) := by
  obtain ⟨u, hu, h⟩ := h
  cases hu
  have key : ∀ (xs : List (List Value)) (c : List Value), RList sz (RSh l) H xs c → c = xs.flatten ∧ ∀ x ∈ xs, shapes l x := by
    intro xs
    induction xs with
    | nil => intro c h; exact ⟨h, by simp⟩
    | cons x xs ih =>
      intro c ⟨c1, c2, hc, hl, ⟨hx, hs⟩, hr⟩
      obtain ⟨e1, e2⟩ := ih c2 hr
      refine ⟨by rw [hc, e1, hx]; rfl, fun y hy => ?_⟩
      rcases List.mem_cons.1 hy with rfl | hy
      · rw [hx]; exact hs
      · exact e2 y hy
  rcases h with ⟨rfl, h⟩ | ⟨hne, i, c, hv, hi, hg, hr⟩
  · exact ⟨⟨by simp, .inl ⟨rfl, h.imp id fun ⟨b, h⟩ => ⟨_, h⟩⟩⟩, by simp⟩
  · obtain ⟨e1, e2⟩ := key xs c hr
    have hlen : ∀ x ∈ xs, x.length = sz := fun x hx => by rw [shapes_len l x (e2 x hx), hz]
    refine ⟨⟨hlen, .inr ⟨false, i, 0, c, hv, hi, hg, ?_, ?_⟩⟩, e2⟩
    · rw [e1, flatten_len xs hlen]; omega
    · rw [e1, List.drop_zero, List.take_of_length_le (by rw [flatten_len xs hlen]; exact Nat.le_refl _)]
end
end Go.Proofs.YtmdpggecelheoaaDoor.Abs
