/- What an argument reads as, laid into the plain heap. -/
import Derived.Test.YtmdpggecelheoaaDoorPA10
set_option linter.unusedVariables false
set_option linter.unusedSimpArgs false
namespace Go.Proofs.YtmdpggecelheoaaDoor.Abs
open Go Go.RowKit

/-- Nothing of the elder heap has changed. -/
structure Hp.le (H H' : Hp) : Prop where
  next : H.next ≤ H'.next
  get : ∀ i, i < H.next → H'.get i = H.get i
theorem Hp.le_refl (H : Hp) : H.le H := ⟨Nat.le_refl _, fun _ _ => rfl⟩
theorem Hp.le_trans {H H1 H2 : Hp} (h : H.le H1) (k : H1.le H2) : H.le H2 := ⟨Nat.le_trans h.next k.next, fun i hi => by rw [k.get i (Nat.lt_of_lt_of_le hi h.next), h.get i hi]⟩
theorem Hp.le_push (H : Hp) (b : Blk) : H.le (H.push b) := ⟨by rw [next_push]; omega, fun i hi => by rw [get_push, if_neg (by omega)]⟩

section
variable {P : Program} {Hh : Type} {enc : TypeId × Value → Hh}
/-- Cells of a type, read by so much fuel, can be laid into a plain heap; R tells what they are. -/
def Opens (P : Program) (t : TypeId) (n : Nat) {α : Type} (R : Hp → α → List Value → Prop) : Prop :=
  ∀ {Hh : Type} (enc : TypeId × Value → Hh) (W : World) (cs : List Value) (d : DataW Hh) (ps : List MemPlace), DataW.trod enc P W 0 (fun _ => true) true n t cs = some (d, ps) →
    ∀ (φ : Plan) (H : Hp), Rel W.heap.size W φ H W → ∃ ψ H' acs x, φ.le ψ ∧ H.le H' ∧ Rel W.heap.size W ψ H' W ∧ VRs ψ acs cs ∧ (∀ u ∈ cs, u.oneCell' = true) ∧ R H' x acs
def RInt (k : IntKind) : Hp → Int → List Value → Prop := fun _ n cs => cs = [.int k n] ∧ (Lit.int k n).wf = true
def RBool : Hp → Bool → List Value → Prop := fun _ b cs => cs = [.bool b]
def RStr : Hp → ByteArray → List Value → Prop := fun _ s cs => cs = [.string s] ∧ s.size ≤ 9223372036854775807
theorem opens_int {t : TypeId} {k : IntKind} (h : P.underlying t = some (.int k)) (n : Nat) : Opens P t n (RInt k) := by
  intro Hh enc W cs d ps hd φ H hR
  cases n with
  | zero => simp [DataW.trod] at hd
  | succ n =>
    simp only [DataW.trod, h] at hd
    split at hd <;> first | (rename_i heq; cases heq) | skip
    all_goals first
      | (split at hd
         · rename_i hk
           obtain ⟨rfl, hw⟩ := hk
           exact ⟨φ, H, _, _, Plan.le_refl φ, Hp.le_refl H, hR, .cons (.int _ _) (.nil φ), by intro u hu; simp at hu; subst hu; rfl, rfl, hw⟩
         · cases hd)
      | cases hd
theorem opens_bool {t : TypeId} (h : P.underlying t = some .bool) (n : Nat) : Opens P t n RBool := by
  intro Hh enc W cs d ps hd φ H hR
  cases n with
  | zero => simp [DataW.trod] at hd
  | succ n =>
    simp only [DataW.trod, h] at hd
    split at hd <;> first | (rename_i heq; cases heq) | skip
    all_goals first
      | exact ⟨φ, H, _, _, Plan.le_refl φ, Hp.le_refl H, hR, .cons (.bool _) (.nil φ), by intro u hu; simp at hu; subst hu; rfl, rfl⟩
      | cases hd
theorem opens_str {t : TypeId} (h : P.underlying t = some .string) (n : Nat) : Opens P t n RStr := by
  intro Hh enc W cs d ps hd φ H hR
  cases n with
  | zero => simp [DataW.trod] at hd
  | succ n =>
    simp only [DataW.trod, h] at hd
    split at hd <;> first | (rename_i heq; cases heq) | skip
    all_goals first
      | (split at hd
         · rename_i hk
           exact ⟨φ, H, _, _, Plan.le_refl φ, Hp.le_refl H, hR, .cons (.string _) (.nil φ), by intro u hu; simp at hu; subst hu; rfl, rfl, by unfold maxLen at hk; exact hk⟩
         · cases hd)
      | cases hd

def Mono {α : Type} (R : Hp → α → List Value → Prop) : Prop := ∀ H H' x cs, H.le H' → R H x cs → R H' x cs
theorem RInt.mono (k : IntKind) : Mono (RInt k) := fun _ _ _ _ _ h => h
theorem RBool.mono : Mono RBool := fun _ _ _ _ _ h => h
theorem RStr.mono : Mono RStr := fun _ _ _ _ _ h => h
def RCons {α β : Type} (R : Hp → α → List Value → Prop) (S : Hp → β → List Value → Prop) : Hp → α × β → List Value → Prop := fun H x cs => ∃ c1 c2, cs = c1 ++ c2 ∧ R H x.1 c1 ∧ S H x.2 c2
theorem RCons.mono {α β : Type} {R : Hp → α → List Value → Prop} {S : Hp → β → List Value → Prop} (h : Mono R) (k : Mono S) : Mono (RCons R S) := fun H H' x cs hl ⟨c1, c2, e, a, b⟩ => ⟨c1, c2, e, h _ _ _ _ hl a, k _ _ _ _ hl b⟩
def RList {α : Type} (sz : Nat) (R : Hp → α → List Value → Prop) (H : Hp) : List α → List Value → Prop
  | [], c => c = []
  | x :: xs, c => ∃ c1 c2, c = c1 ++ c2 ∧ c1.length = sz ∧ R H x c1 ∧ RList sz R H xs c2
theorem RList.mono {α : Type} {sz : Nat} {R : Hp → α → List Value → Prop} (h : Mono R) {H H' : Hp} (hl : H.le H') : ∀ (xs : List α) (c : List Value), RList sz R H xs c → RList sz R H' xs c
  | [], _, e => e
  | x :: xs, _, ⟨c1, c2, e, l, a, b⟩ => ⟨c1, c2, e, l, h _ _ _ _ hl a, RList.mono h hl xs c2 b⟩
theorem RList.length {α : Type} {sz : Nat} {R : Hp → α → List Value → Prop} {H : Hp} : ∀ (xs : List α) (c : List Value), RList sz R H xs c → c.length = xs.length * sz
  | [], _, e => by cases e; simp
  | x :: xs, _, ⟨c1, c2, e, l, a, b⟩ => by subst e; simp [RList.length xs c2 b, l, Nat.add_mul]; omega
def RSlice {α : Type} (e : TypeId) (sz : Nat) (R : Hp → α → List Value → Prop) : Hp → List α → List Value → Prop := fun H xs cs =>
  ∃ v, cs = [v] ∧ ((xs = [] ∧ (v = .slice none 0 0 ∨ ∃ b, v = .slice (some ⟨b, 0, none⟩) 0 sz)) ∨
    (xs ≠ [] ∧ ∃ i c, v = .slice (some ⟨i, 0, none⟩) xs.length sz ∧ i < H.next ∧ H.get i = .cells false e c ∧ RList sz R H xs c))
theorem RSlice.mono {α : Type} {e : TypeId} {sz : Nat} {R : Hp → α → List Value → Prop} (h : Mono R) : Mono (RSlice e sz R) := by
  rintro H H' xs cs hl ⟨v, e1, h1 | ⟨h0, i, c, e2, hi, hg, hr⟩⟩
  · exact ⟨v, e1, .inl h1⟩
  · exact ⟨v, e1, .inr ⟨h0, i, c, e2, Nat.lt_of_lt_of_le hi hl.next, by rw [hl.get i hi]; exact hg, RList.mono h hl xs c hr⟩⟩

def OpensF (P : Program) (fs : List Field) (off total n : Nat) {α : Type} (R : Hp → α → List Value → Prop) : Prop :=
  ∀ {Hh : Type} (enc : TypeId × Value → Hh) (W : World) (cs : List Value) (xs : List (DataW Hh × List MemPlace)), cs.length = total → fs.mapM (fun f => DataW.trod enc P W 0 (fun _ => true) true n f.type ((cs.drop f.offset).take (P.cellsOf f.type))) = some xs →
    ∀ (φ : Plan) (H : Hp), Rel W.heap.size W φ H W → ∃ ψ H' acs x, φ.le ψ ∧ H.le H' ∧ Rel W.heap.size W ψ H' W ∧ VRs ψ acs (cs.drop off) ∧ (∀ u ∈ cs.drop off, u.oneCell' = true) ∧ R H' x acs
theorem opensF_last {f : Field} {off total n : Nat} {α : Type} {R : Hp → α → List Value → Prop} (h : Opens P f.type n R) (ho : f.offset = off) (hs : off + P.cellsOf f.type = total) : OpensF P [f] off total n R := by
  intro Hh enc W cs xs hl hx φ H hR
  simp only [List.mapM_cons, List.mapM_nil, Option.pure_def, Option.bind_eq_bind, Option.bind_eq_some_iff] at hx
  obtain ⟨d, hd, _⟩ := hx
  have e : (cs.drop f.offset).take (P.cellsOf f.type) = cs.drop off := by rw [ho, List.take_of_length_le (by simp; omega)]
  rw [e] at hd
  exact h enc W _ d.1 d.2 hd φ H hR
theorem opensF_cons {f : Field} {fs : List Field} {off s total n : Nat} {α β : Type} {R : Hp → α → List Value → Prop} {S : Hp → β → List Value → Prop} (h : Opens P f.type n R) (hm : Mono R) (k : OpensF P fs (off + s) total n S)
    (ho : f.offset = off) (hs : P.cellsOf f.type = s) (ht : off + s ≤ total) : OpensF P (f :: fs) off total n (RCons R S) := by
  intro Hh enc W cs xs hl hx φ H hR
  simp only [List.mapM_cons, Option.pure_def, Option.bind_eq_bind, Option.bind_eq_some_iff] at hx
  obtain ⟨d, hd, ys, hy, _⟩ := hx
  obtain ⟨ψ, H1, a1, x, h1, h2, h3, h4, h5, h6⟩ := h enc W _ d.1 d.2 hd φ H hR
  obtain ⟨χ, H2, a2, y, k1, k2, k3, k4, k5, k6⟩ := k enc W cs ys hl hy ψ H1 h3
  have e : cs.drop off = (cs.drop f.offset).take (P.cellsOf f.type) ++ cs.drop (off + s) := by
    rw [ho, hs, ← List.drop_drop, List.take_append_drop]
  refine ⟨χ, H2, a1 ++ a2, (x, y), Plan.le_trans h1 k1, Hp.le_trans h2 k2, k3, by rw [e]; exact (h4.mono k1).append k4, ?_, a1, a2, rfl, hm _ _ _ _ k2 h6, k6⟩
  rw [e]
  intro u hu
  rcases List.mem_append.1 hu with h | h
  · exact h5 u h
  · exact k5 u h
theorem opens_struct {t : TypeId} {fs : Array Field} {n total : Nat} {α : Type} {R : Hp → α → List Value → Prop} (h : P.underlying t = some (.struct fs)) (hc : P.cellsOf t = total) (hF : OpensF P fs.toList 0 total n R) : Opens P t (n + 1) R := by
  intro Hh enc W cs d ps hd φ H hR
  have key : ∀ (x : Option (DataW Hh × List MemPlace)), x = (if cs.length = P.cellsOf t then (fs.toList.mapM fun f => DataW.trod enc P W 0 (fun _ => true) true n f.type ((cs.drop f.offset).take (P.cellsOf f.type))).map fun xs => (DataW.agg (xs.map (·.1)), xs.flatMap (·.2)) else none) → x = some (d, ps) → ∃ ψ H' acs x, φ.le ψ ∧ H.le H' ∧ Rel W.heap.size W ψ H' W ∧ VRs ψ acs cs ∧ (∀ u ∈ cs, u.oneCell' = true) ∧ R H' x acs := by
    intro x hx hxs
    rw [hx] at hxs
    split at hxs
    · rename_i hl
      simp only [Option.map_eq_some_iff] at hxs
      obtain ⟨xs, hxs, _⟩ := hxs
      have := hF enc W cs xs (hl.trans hc) hxs φ H hR
      simpa using this
    · cases hxs
  refine key _ ?_ hd
  simp only [DataW.trod, h]

theorem Rel.pushRO {W : World} {φ : Plan} {H : Hp} (hR : Rel W.heap.size W φ H W) {e e' : TypeId} {c : List Value} {cur : Array Value} {fr : Nat × Nat} {m : Emb} (hh : W.heap[m.blk]? = some (.cells cur e' fr)) (hl : m.base + c.length ≤ cur.size)
    (hv : VRs φ c ((cur.toList.drop m.base).take c.length)) (h1 : ∀ u, u ∈ (cur.toList.drop m.base).take c.length → u.oneCell' = true) :
    φ.le (φ.set H.next m) ∧ Rel W.heap.size W (φ.set H.next m) (H.push (.cells false e c)) W := by
  have hle : φ.le (φ.set H.next m) := Plan.le_set _ (hR.dom _ (Nat.le_refl _))
  have hb : m.blk < W.heap.size := (Array.getElem?_eq_some_iff.1 hh).1
  refine ⟨hle, hR.change hle hR.below (Nat.le_refl _) ?_ H.next ?_ ?_ ?_ ?_ ?_ ?_ ?_⟩
  · intro i hi
    rw [next_push] at hi
    rw [Plan.set_other _ _ (by omega)]
    exact hR.dom i (by omega)
  · intro j hj
    exact ⟨Plan.set_other _ _ hj, .inr ⟨by rw [get_push, if_neg hj], fun _ _ _ _ => rfl⟩⟩
  · rw [get_push, if_pos rfl, Plan.set_same]
    exact ⟨m, cur, e', fr, rfl, hh, (fun h => by cases h), hl, hv.mono hle, h1, fun h => by cases h⟩
  · intro m' hm'
    rw [Plan.set_same] at hm'
    cases hm'; exact hb
  · intro j m' mi hj hm' hmi _ k hk hk'
    rw [Plan.set_same] at hmi
    cases hmi
    rw [get_push, if_pos rfl] at hk'
    simp [foot, hb] at hk'
  · rw [next_push]; omega
  · intro k x hk; exact hk.elim
  · intro b hb; exact hb.elim

theorem cells?_spec {w : World} {a : Addr} {n : Nat} {cs : List Value} (h : w.cells? 0 a n = some cs) : cs.length = n ∧ ∀ j, j < n → w.cell? (a.add j) = cs[j]? := by
  unfold World.cells? at h
  rw [if_pos (Nat.zero_le _)] at h
  have key : ∀ (n s : Nat) (cs : List Value), (List.range' s n).mapM (fun i => w.cell? (a.add i)) = some cs → cs.length = n ∧ ∀ j, j < n → w.cell? (a.add (s + j)) = cs[j]? := by
    intro n
    induction n with
    | zero => intro s cs h; simp at h; subst h; exact ⟨rfl, fun j hj => by omega⟩
    | succ n ih =>
      intro s cs h
      simp only [List.range'_succ, List.mapM_cons, Option.pure_def, Option.bind_eq_bind, Option.bind_eq_some_iff, Option.some.injEq] at h
      obtain ⟨v, hv, vs, hvs, rfl⟩ := h
      obtain ⟨i1, i2⟩ := ih (s + 1) vs hvs
      refine ⟨by simp [i1], fun j hj => ?_⟩
      cases j with
      | zero => simpa using hv
      | succ j => have := i2 j (by omega); simpa [Nat.add_assoc, Nat.add_comm 1 j] using this
  rw [List.range_eq_range'] at h
  have := key n 0 cs h
  simpa using this
theorem cell?_add_cells {w : World} {a : Addr} {k : Nat} {v : Value} (h : w.cell? (a.add k) = some v) : (k = 0 → a.spot = none) ∧ ∃ cur e fr, w.heap[a.block]? = some (.cells cur e fr) ∧ cur[a.off + k]? = some v := by
  have hb : (a.add k).block = a.block := by unfold Addr.add; split <;> rfl
  have ho : (a.add k).off = a.off + k := by unfold Addr.add; split <;> simp_all
  simp only [World.cell?, hb, ho] at h
  split at h
  · rename_i cur e fr hh
    split at h
    · cases h
    · rename_i hs
      refine ⟨fun hk => ?_, cur, e, fr, hh, h⟩
      subst hk
      simpa [Addr.add] using hs
  · cases h

theorem opens_slice {t e : TypeId} {n sz : Nat} {α : Type} {R : Hp → α → List Value → Prop} (h : P.underlying t = some (.slice e)) (hc : P.cellsOf e = sz) (hz : 0 < sz) (ho : Opens P e n R) (hm : Mono R) : Opens P t (n + 1) (RSlice e sz R) := by
  intro Hh enc W cs d ps hd φ H hR
  simp only [DataW.trod, h] at hd
  split at hd <;> first | (rename_i heq; cases heq) | skip
  · -- nil
    exact ⟨φ, H, [.slice none 0 0], [], Plan.le_refl φ, Hp.le_refl H, hR, .cons .slice0 (.nil φ), by intro u hu; simp at hu; subst hu; rfl, _, rfl, .inl ⟨rfl, .inl rfl⟩⟩
  · rename_i a len cap
    split at hd
    · rename_i hb
      obtain ⟨_, hlc, _⟩ := hb
      simp only [Option.bind_eq_some_iff, Option.map_eq_some_iff, if_true] at hd
      obtain ⟨elems, hel, rest, hrest, _⟩ := hd
      rw [hc] at hel hrest
      -- the elements, one by one
      have key : ∀ (k s : Nat) (es : List (DataW Hh × List MemPlace)) (φ : Plan) (H : Hp), Rel W.heap.size W φ H W → (List.range' s k).mapM (fun i => (W.cells? 0 (a.add (i * sz)) sz).bind (DataW.trod enc P W 0 (fun _ => true) true n e)) = some es →
          ∃ ψ H' acs cs xs, φ.le ψ ∧ H.le H' ∧ Rel W.heap.size W ψ H' W ∧ VRs ψ acs cs ∧ (∀ u ∈ cs, u.oneCell' = true) ∧ RList sz R H' xs acs ∧ xs.length = k ∧ cs.length = k * sz ∧ ∀ j, j < k * sz → W.cell? (a.add (s * sz + j)) = cs[j]? := by
        intro k
        induction k with
        | zero => intro s es φ H hR hes; exact ⟨φ, H, [], [], [], Plan.le_refl φ, Hp.le_refl H, hR, .nil φ, by simp, rfl, rfl, by simp, fun j hj => by omega⟩
        | succ k ih =>
          intro s es φ H hR hes
          simp only [List.range'_succ, List.mapM_cons, Option.pure_def, Option.bind_eq_bind, Option.bind_eq_some_iff, Option.some.injEq] at hes
          obtain ⟨x, ⟨c1, hc1, hx⟩, ys, hys, rfl⟩ := hes
          obtain ⟨l1, l2⟩ := cells?_spec hc1
          obtain ⟨ψ, H1, a1, x1, h1, h2, h3, h4, h5, h6⟩ := ho enc W c1 x.1 x.2 hx φ H hR
          obtain ⟨χ, H2, a2, c2, xs, k1, k2, k3, k4, k5, k6, k7, k8, k9⟩ := ih (s + 1) ys ψ H1 h3 hys
          refine ⟨χ, H2, a1 ++ a2, c1 ++ c2, x1 :: xs, Plan.le_trans h1 k1, Hp.le_trans h2 k2, k3, (h4.mono k1).append k4, ?_, ⟨a1, a2, rfl, by rw [h4.1, l1], hm _ _ _ _ k2 h6, k6⟩, by simp [k7], by simp [l1, k8, Nat.add_mul]; omega, fun j hj => ?_⟩
          · intro u hu
            rcases List.mem_append.1 hu with h | h
            · exact h5 u h
            · exact k5 u h
          · rw [Nat.add_mul, Nat.one_mul] at hj
            by_cases hjs : j < sz
            · rw [List.getElem?_append_left (by omega), ← l2 j hjs]
              congr 1
              unfold Addr.add
              by_cases h0 : s * sz = 0
              · rw [if_pos h0, h0, Nat.zero_add]
              · rw [if_neg h0, if_neg (show ¬ s * sz + j = 0 by omega)]
                by_cases hj0 : j = 0
                · subst hj0; simp
                · rw [if_neg hj0]; simp [Nat.add_assoc]
            · have ej : (s + 1) * sz + (j - sz) = s * sz + j := by rw [Nat.add_mul, Nat.one_mul]; omega
              rw [List.getElem?_append_right (by omega), l1, ← k9 (j - sz) (by omega), ej]
      rw [List.range_eq_range'] at hel
      obtain ⟨ψ, H1, acs, c1, xs, g1, g2, g3, g4, g5, g6, g7, g8, g9⟩ := key len 0 elems φ H hR hel
      rw [Nat.zero_mul] at g9
      by_cases hcap : cap = 0
      · have hl0 : len = 0 := by omega
        subst hcap hl0
        have hxs : xs = [] := List.length_eq_zero_iff.1 g7
        exact ⟨φ, H, [.slice (some ⟨0, 0, none⟩) 0 sz], [], Plan.le_refl φ, Hp.le_refl H, hR, .cons (.sliceE _ _ _) (.nil φ), by intro u hu; simp at hu; subst hu; rfl, _, rfl, .inl ⟨rfl, .inr ⟨_, rfl⟩⟩⟩
      · -- the first element can be read
        have h0 : ∃ v, W.cell? (a.add 0) = some v := by
          by_cases hl0 : len = 0
          · subst hl0
            have : ∃ cs, W.cells? 0 (a.add (0 * sz)) sz = some cs := by
              obtain ⟨q, rfl⟩ : ∃ q, cap = q + 1 := ⟨cap - 1, by omega⟩
              simp only [Nat.sub_zero, List.range_succ_eq_map, List.mapM_cons, Option.pure_def, Option.bind_eq_bind, Option.bind_eq_some_iff, Nat.add_zero] at hrest
              obtain ⟨x, ⟨c, hc, _⟩, _⟩ := hrest
              exact ⟨c, hc⟩
            obtain ⟨cs0, hcs0⟩ := this
            obtain ⟨q1, q2⟩ := cells?_spec hcs0
            have := q2 0 hz
            rw [Nat.zero_mul] at this
            have e0 : (a.add 0).add 0 = a.add 0 := by simp [Addr.add]
            rw [e0] at this
            exact ⟨cs0[0]'(by omega), by rw [this, List.getElem?_eq_getElem]⟩
          · have hpos : 0 < len * sz := Nat.mul_pos (by omega) hz
            have := g9 0 hpos
            rw [Nat.zero_add] at this
            exact ⟨c1[0]'(by omega), by rw [this, List.getElem?_eq_getElem]⟩
        obtain ⟨v0, hv0⟩ := h0
        obtain ⟨hspot, cur, e', fr, hh, hcur0⟩ := cell?_add_cells hv0
        have hspot := hspot rfl
        have hlen : len * sz = acs.length := by rw [g4.1, g8]
        have hcells : ∀ j, j < len * sz → cur[a.off + j]? = c1[j]? := by
          intro j hj
          have := g9 j hj
          rw [Nat.zero_add] at this
          have hs : ∃ v, c1[j]? = some v := ⟨c1[j]'(by omega), List.getElem?_eq_getElem (by omega)⟩
          obtain ⟨v, hv⟩ := hs
          rw [hv] at this
          obtain ⟨_, cur', e'', fr', hh', hc'⟩ := cell?_add_cells this
          rw [hh] at hh'; cases hh'
          rw [hc', hv]
        have hsize : a.off + acs.length ≤ cur.size := by
          by_cases hl0 : len * sz = 0
          · rw [← hlen, hl0]
            have : a.off + 0 < cur.size := by
              rcases Nat.lt_or_ge (a.off + 0) cur.size with h | h
              · exact h
              · rw [Array.getElem?_eq_none h] at hcur0; cases hcur0
            omega
          · have := hcells (len * sz - 1) (by omega)
            rw [List.getElem?_eq_getElem (by omega)] at this
            have : a.off + (len * sz - 1) < cur.size := by
              rcases Nat.lt_or_ge (a.off + (len * sz - 1)) cur.size with h | h
              · exact h
              · rw [Array.getElem?_eq_none h] at this; cases this
            omega
        have htake : (cur.toList.drop a.off).take acs.length = c1 := by
          apply List.ext_getElem?
          intro j
          by_cases hj : j < len * sz
          · rw [List.getElem?_take, if_pos (by omega), List.getElem?_drop, ← hcells j hj]; simp
          · rw [List.getElem?_take, if_neg (by omega), List.getElem?_eq_none (by omega)]
        obtain ⟨p1, p2⟩ := g3.pushRO (e := e) (c := acs) (m := ⟨a.block, a.off, a.off + cap * sz⟩) hh hsize (by rw [htake]; exact g4) (by rw [htake]; exact g5)
        have hV : VR (ψ.set H1.next ⟨a.block, a.off, a.off + cap * sz⟩) (.slice (some ⟨H1.next, 0, none⟩) len sz) (.slice (some a) len cap) := by
          have := VR.slice (φ := ψ.set H1.next ⟨a.block, a.off, a.off + cap * sz⟩) H1.next 0 len sz cap ⟨a.block, a.off, a.off + cap * sz⟩ (Plan.set_same ..) hlc (by simp)
          have ea : (⟨a.block, a.off + 0, none⟩ : Addr) = a := by cases a; simp_all
          rw [ea] at this
          exact this
        refine ⟨_, _, [.slice (some ⟨H1.next, 0, none⟩) len sz], xs, Plan.le_trans g1 p1, Hp.le_trans g2 (Hp.le_push _ _), p2, .cons hV (.nil _), by intro u hu; simp at hu; subst hu; rfl, _, rfl, ?_⟩
        by_cases hx0 : xs = []
        · left
          have : len = 0 := by rw [← g7, hx0]; rfl
          subst this
          exact ⟨hx0, .inr ⟨_, rfl⟩⟩
        · right
          refine ⟨hx0, H1.next, acs, by rw [g7], by rw [next_push]; omega, by rw [get_push, if_pos rfl], RList.mono hm (Hp.le_push _ _) xs acs g6⟩
    · cases hd
  · cases hd
end
end Go.Proofs.YtmdpggecelheoaaDoor.Abs
