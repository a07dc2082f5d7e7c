/- Any heavy operation over values with their slices: the plain heap answers alike. -/
import Derived.Test.YtmdpggecelheoaaDoorPW13
set_option linter.unusedVariables false
set_option linter.unusedSimpArgs false
namespace Go.Proofs.YtmdpggecelheoaaDoor.Abs
open Go

section
variable {R R1 : Rl} {S : VH} {P : Program}
theorem thawAll_tup {v : Value} (h2 : isTup v = false) : isTup (mapOwn thawAll v) = false ∧ (mapOwn thawAll v).cells.size = v.cells.size := by
  cases v with
  | func f x y =>
    cases f with
    | func i => obtain ⟨x⟩ := x; obtain ⟨y⟩ := y; rw [mapOwn_clo]; exact ⟨rfl, rfl⟩
    | _ =>
      simp only [mapOwn, thawAll, fate]
      split <;> exact ⟨rfl, rfl⟩
  | agg x => obtain ⟨x⟩ := x; rw [mapOwn_agg]; exact ⟨rfl, by simp [Value.cells]⟩
  | tuple => cases h2
  | chan => cases h2
  | _ => exact ⟨rfl, rfl⟩
theorem less_eff {ks : List Tok} {ws : List Nat} {kf : Bool} {H' : Hp} (h : Eff (R.less ks) ws kf H') : Eff R ws kf H' := by
  have hk : ∀ k b, R.ρ k ≠ some b → (R.less ks).ρ k ≠ some b := by
    intro k b h hh
    simp only [Rl.less] at hh
    split at hh
    · cases hh
    · exact h hh
  intro b hb hw hkf
  exact h b hb (fun i hi => ⟨(hw i hi).1, fun o => hk _ _ ((hw i hi).2 o)⟩) fun hf d => hk _ _ (hkf hf d)
theorem vstore_ok (hr : HRel R S.all) {t : TypeId} {a x a' x' : Value} {r : VRes} (ha : Rd R a a') (hx : Rd R x x') (h : vstore P t a x S = some r) : VOk P R S r ((astore P t a' x' R.H).map fun H' => .val undef H') := by
  cases hv : view a with
  | atOwn k j y =>
    obtain rfl := ha.is_atOwn hv
    obtain ⟨sz, b, rfl, h0, hys, hk, ⟨el, c, hg⟩, o', el', c', hg', hle, _, _⟩ := ha.inv_atOwn
    rw [hg] at hg'
    cases hg'
    unfold vstore at h
    simp only [hv] at h
    split at h
    · rename_i hh
      obtain ⟨h1, h2, h3, h4, h5⟩ := hh
      cases h
      have hlt := toks_lt hr hx
      have t1 := thaw_step hr (toks x) hlt
      have hx1 : Rd (R.less (toks x)) (mapOwn thawAll x) x' := by
        have := t1.rd _ _ hx
        simp only [turns, List.foldl_cons, List.foldl_nil] at this
        rwa [thawAll_eq (ks := toks x) fun k hk => hk]
      obtain ⟨ht1, ht2⟩ := thawAll_tup h3
      have t2 := upd_step (S := S.thaw (toks x)) (j := j) (us := x'.cells.toList) t1.hr h0 (show (R.less (toks x)).ρ k = some b by simp only [Rl.less]; rw [if_neg h5]; exact hk) hg (by rw [ht2, ← h2]; exact hys) h4 (hx1.cells ht1) (by omega)
      have := t1.trans t2 (less_eff t2.eff) (by simp)
      have hcs := hx.cells_size h3
      refine ⟨undef, _, _, ?_, rfl, this, .undef _⟩
      rw [astore_eq hg (by rw [hcs]; exact h1) (hx.not_tup h3) (by rw [hcs, ← h2]; exact hle)]
      rfl
    · cases h
  | _ =>
    cases a with
    | pointer ad =>
      cases ad with
      | some ad => exact store_box_ok hr ha hx h
      | none => unfold vstore at h; simp only [hv] at h; cases h
    | _ => unfold vstore at h; simp only [hv] at h; cases h
theorem conv_bytes (hr : HRel R S.all) {d : Nat} {src dst e : TypeId} {s : ByteArray} (he : elemT P dst = some e) (hs : P.underlying src = some .string) (hu : P.underlying e = some (.int .u8)) (hz : szT P e = some 1) :
    VOk P R S ⟨vo (d, none) 1 0 (s.data.toList.map fun b => .int .u8 b.toNat), [thaw [(d, none)]], S, [], false⟩ (some (.val (.slice (some ⟨R.H.next, 0, none⟩) s.size 1) (R.H.push (.cells true (slT e) (s.data.toList.map fun b => .int .u8 b.toNat))))) := by
  obtain ⟨R1, h1, h2, h3⟩ := new_step (S := S) hr d [] (by simp) (slT e) (s.data.toList.map fun b => .int .u8 b.toNat)
  rw [thaw1_eq] at h2
  have e1 : ∀ l : List UInt8, cellsL (l.map fun b => Value.int .u8 b.toNat) = l.map fun b => Value.int .u8 b.toNat := by
    intro l
    induction l with
    | nil => rfl
    | cons a l ih => simp only [cellsL, List.map_cons, List.flatMap_cons] at ih ⊢; rw [ih]; rfl
  have hsz : s.data.toList.length = s.size := Array.length_toList
  refine ⟨_, _, R1, rfl, h1, h2, ?_⟩
  have := rd_new (R := R1) (d := d) (sz := 1) (l := s.data.toList.map fun b => .int .u8 b.toNat) (b := R.H.next) (t := slT e) (c' := s.data.toList.map fun b => .int .u8 b.toNat) (by omega) h3 (by rw [h1, get_push, if_pos rfl]) (by simp) (by
    intro y hy
    simp only [List.mem_map] at hy
    obtain ⟨b, _, rfl⟩ := hy
    rfl) (by
    rw [okvL_eq, List.all_eq_true]
    intro y hy
    simp only [List.mem_map] at hy
    obtain ⟨b, _, rfl⟩ := hy
    rfl) (by rw [e1]; exact RdL.map _ fun x _ => .int _ _)
  rw [List.length_map, hsz] at this
  exact this
theorem hop_ok (hr : HRel R S.all) {d : Nat} {ρ ρ' : Operand → Value} (hρ : ∀ x, Rd R (ρ x) (ρ' x)) {o : Op} {r : VRes} (h : vhop P d ρ S o = some (.val r)) : VOk P R S r (hop P ρ' R.H o) := by
  cases o with
  | alloc t =>
    simp only [vhop, Option.bind_eq_some_iff] at h
    obtain ⟨z, hz, h⟩ := h
    split at h
    · rename_i hf
      cases h
      obtain ⟨R1, h1, h2, h3⟩ := alloc_ok (S := S) (t := t) hr hf
      refine ⟨_, _, R1, ?_, h1, h2, h3⟩
      simp only [hop, hz, Option.bind_some, hf, if_true]
    · cases h
  | box t x =>
    simp only [vhop] at h
    split at h
    · cases h
    · rename_i ht
      rw [Option.map_eq_some_iff] at h
      obtain ⟨r', h, hr'⟩ := h
      cases hr'
      unfold vbox vboxed at h
      by_cases hok : cellsOk S.next false S.next 0 (if foreign S.next 0 (ρ x).cells.toList = [] then (ρ x).cells.toList else (ρ x).cells.toList.map (mapOwn (Abs.thaw (foreign S.next 0 (ρ x).cells.toList)))) = true
      · rw [if_pos hok] at h
        cases h
        have ht' : isTup (ρ x) = false := by simpa using ht
        obtain ⟨R1, h1, h2, h3⟩ := box_ok hr (t := t) (hρ x) ht' rfl rfl rfl rfl hok
        refine ⟨_, _, R1, ?_, h1, h2, h3⟩
        simp only [hop]
        rw [if_neg (by simp [(hρ x).not_tup ht'])]
      · rw [if_neg hok] at h; cases h
  | buildSlice t len ps =>
    simp only [vhop, Option.map_eq_some_iff] at h
    obtain ⟨r', h1, h2⟩ := h
    cases h2
    exact build_ok hr hρ h1
  | store t a x =>
    simp only [vhop, Option.map_eq_some_iff] at h
    obtain ⟨r', h1, h2⟩ := h
    cases h2
    exact vstore_ok hr (hρ a) (hρ x) h1
  | convert src dst x =>
    simp only [vhop] at h
    split at h
    · rename_i e s hs he hx
      split at h
      · rename_i hu
        split at h
        · rename_i hz
          cases h
          have hxx := hρ x
          rw [hx] at hxx
          have : hop P ρ' R.H (.convert src dst x) = some (.val (.slice (some ⟨R.H.next, 0, none⟩) s.size 1) (R.H.push (.cells true (slT e) (s.data.toList.map fun b => .int .u8 b.toNat)))) := by
            simp only [hop, hs, elemT_some he, hxx.inv_string, hu, hz, if_true]
          rw [this]
          exact conv_bytes hr he hs hu hz
        · cases h
      · cases h
    · cases h
  | call c =>
    simp only [vhop] at h
    split at h
    · rename_i hc
      split at h
      · rename_i st xt s x h1 h2
        rw [Option.map_eq_some_iff] at h
        obtain ⟨r', h3, h4⟩ := h
        cases h4
        have := append_ok hr (hρ s) (hρ x) h3
        have e : hop P ρ' R.H (.call c) = (aappend P st xt (ρ' s) (ρ' x) R.H).map fun r => .val r.1 r.2 := by
          simp only [hop, hc, h1, h2]
        rw [e]
        exact this
      · cases h
    · split at h
      · split at h <;> cases h
      · cases h
    · cases h
  | _ => simp [vhop] at h
theorem hop_enter {d : Nat} {ρ ρ' : Operand → Value} (hρ : ∀ x, Rd R (ρ x) (ρ' x)) {o : Op} {f : FuncId} {args : List Value} (h : vhop P d ρ S o = some (.enter f args)) : ∃ args', hop P ρ' R.H o = some (.enter f args') ∧ RdL R args args' := by
  cases o with
  | call c =>
    simp only [vhop] at h
    split at h
    · split at h
      · rw [Option.map_eq_some_iff] at h
        obtain ⟨_, _, h⟩ := h
        cases h
      · cases h
    · rename_i fo hc
      split at h
      · rename_i g first captured hf
        split at h
        · rename_i hok
          cases h
          obtain ⟨first⟩ := first
          obtain ⟨captured⟩ := captured
          have hff := hρ fo
          rw [hf] at hff
          obtain ⟨x', y', hf', hx, hy⟩ := hff.inv_clo
          refine ⟨x' ++ c.args.toList.map ρ' ++ y', ?_, (hx.append (RdL.map _ fun x _ => hρ x)).append hy⟩
          simp only [hop, hc, hf', hok, if_true]
        · cases h
      · cases h
    · cases h
  | box t x =>
    simp only [vhop] at h
    split at h
    · cases h
    · rw [Option.map_eq_some_iff] at h
      obtain ⟨_, _, h⟩ := h
      cases h
  | alloc t =>
    simp only [vhop, Option.bind_eq_some_iff] at h
    obtain ⟨z, hz, h⟩ := h
    split at h <;> cases h
  | buildSlice t len ps =>
    simp only [vhop, Option.map_eq_some_iff] at h
    obtain ⟨_, _, h⟩ := h
    cases h
  | store t a x =>
    simp only [vhop, Option.map_eq_some_iff] at h
    obtain ⟨_, _, h⟩ := h
    cases h
  | convert src dst x =>
    simp only [vhop] at h
    split at h
    · split at h
      · split at h <;> cases h
      · cases h
    · cases h
  | _ => simp [vhop] at h
end
end Go.Proofs.YtmdpggecelheoaaDoor.Abs
