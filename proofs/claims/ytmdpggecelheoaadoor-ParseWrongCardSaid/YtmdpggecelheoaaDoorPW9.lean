/- Appending and building over values with their slices. -/
import Derived.Test.YtmdpggecelheoaaDoorPW8
set_option linter.unusedVariables false
set_option linter.unusedSimpArgs false
namespace Go.Proofs.YtmdpggecelheoaaDoor.Abs
open Go

mutual
theorem mapOwn_congr {f f' : Tok → Fate} : ∀ v : Value, (∀ k ∈ toks v, f k = f' k) → mapOwn (fate f) v = mapOwn (fate f') v
  | .func g x y, h => by
    cases g with
    | func i =>
      simp only [toks, List.mem_append] at h
      simp only [mapOwn, mapOwnA_congr x fun k hk => h k (.inl hk), mapOwnA_congr y fun k hk => h k (.inr hk)]
    | _ =>
      simp only [mapOwn]
      simp only [toks] at h
      unfold fate
      split
      · rename_i k sz off l hv; simp only [hv, List.mem_singleton, forall_eq] at h; simp only [h]
      · rename_i k j x hv; simp only [hv, List.mem_singleton, forall_eq] at h; simp only [h]
      · rename_i k x hv; simp only [hv, List.mem_singleton, forall_eq] at h; simp only [h]
      · rfl
  | .iface t v, h => by simp only [toks] at h; simp only [mapOwn, mapOwn_congr v h]
  | .agg x, h => by simp only [toks] at h; simp only [mapOwn, mapOwnA_congr x h]
  | .tuple x, h => by simp only [toks] at h; simp only [mapOwn, mapOwnA_congr x h]
  | .bool _, _ => rfl
  | .int .., _ => rfl
  | .float .., _ => rfl
  | .complex .., _ => rfl
  | .string _, _ => rfl
  | .pointer _, _ => rfl
  | .slice .., _ => rfl
  | .map _, _ => rfl
  | .chan _, _ => rfl
  | .nilFunc, _ => rfl
  | .nilIface, _ => rfl
theorem mapOwnA_congr {f f' : Tok → Fate} : ∀ x : Array Value, (∀ k ∈ toksA x, f k = f' k) → mapOwnA (fate f) x = mapOwnA (fate f') x
  | ⟨x⟩, h => by simp only [toksA] at h; simp only [mapOwnA, mapOwnL_congr x h]
theorem mapOwnL_congr {f f' : Tok → Fate} : ∀ x : List Value, (∀ k ∈ toksL x, f k = f' k) → mapOwnL (fate f) x = mapOwnL (fate f') x
  | [], _ => rfl
  | a :: x, h => by
    simp only [toksL, List.mem_append] at h
    simp only [mapOwnL, mapOwn_congr a fun k hk => h k (.inl hk), mapOwnL_congr x fun k hk => h k (.inr hk)]
end
theorem thawAll_eq {ks : List Tok} {v : Value} (h : ∀ k ∈ toks v, k ∈ ks) : mapOwn thawAll v = mapOwn (thaw ks) v := by
  refine mapOwn_congr v fun k hk => ?_
  rw [if_pos (h k hk)]
section
variable {R R1 : Rl} {S : VH} {P : Program}
/-! ### Appending to an own slice -/
def Rl.grown (R : Rl) (k : Tok) (b : Nat) (e : TypeId) (c' : List Value) : Rl := { R with ρ := fun k' => if k' = k then some R.H.next else R.ρ k', H := (R.H.put b .dead).push (.cells true e c') }
theorem grown_get {k : Tok} {b b' : Nat} {e : TypeId} {c' : List Value} (h : b' ≠ b) (hl : b' < R.H.next) : (R.grown k b e c').H.get b' = R.H.get b' := by
  simp only [Rl.grown]
  rw [get_push, next_put, if_neg (by omega), get_put, if_neg h]
theorem grow_step (hr : HRel R S.all) {k : Tok} {b : Nat} (hk : R.ρ k = some b) (e : TypeId) (c' : List Value) :
    Nxt R (R.grown k b e c') S (S.turn (scrub k) (ownBox k)) (ownBox k) k.2.isNone [scrub k] := by
  have hn : (R.grown k b e c').H.next = R.H.next + 1 := by simp only [Rl.grown]; rw [next_push, next_put]
  have hs : Stays R (R.grown k b e c') := by
    refine grow_stays (fun i b hb => hb) (fun b hb => .inl hb) (fun k' b' h => ?_) rfl (by omega) fun b' hb => grown_get (fun h => hb.2.2 k (h ▸ hk)) hb.1
    simp only [Rl.grown] at h
    split at h
    · cases h; exact .inr (Nat.le_refl _)
    · exact .inl h
  have hf : FateOk R (R.grown k b e c') (fun k' => if k' = k then .drop else .keep) := by
    constructor
    · intro k' b' h hh
      split at hh
      · cases hh
      · rename_i hne
        refine ⟨by simp only [Rl.grown, if_neg hne]; exact h, grown_get (fun hb => hne (hr.inj k' k b (hb ▸ h) hk)) (hr.sep k' b' h).2⟩
    · intro k' b' d h hh; split at hh <;> cases hh
    · intro k' b' k'' h hh; split at hh <;> cases hh
  have hf' : FateOk (R.grown k b e c') (R.grown k b e c') (fun k' => if k' = k then .drop else .keep) := by
    constructor
    · intro k' b' h hh; exact ⟨h, rfl⟩
    · intro k' b' d h hh; split at hh <;> cases hh
    · intro k' b' k'' h hh; split at hh <;> cases hh
  have hs' : Stays (R.grown k b e c') (R.grown k b e c') := ⟨fun _ _ h => h, fun _ h => ⟨h, rfl⟩, fun _ _ _ h => h⟩
  have hto : ∀ (i o : Nat) (k' : Tok), (fun k' => if k' = k then Fate.drop else Fate.keep) (i, some o) ≠ .to k' := by
    intro i o k' h
    simp only at h
    split at h <;> cases h
  obtain ⟨t1, t2, t3, t4⟩ := VH.turn_all (scrub k) (ownBox k) S fun _ _ _ => trivial
  have hob : ∀ i o, k = (i, some o) → i ∈ ownBox k := by rintro i o rfl; simp [ownBox]
  have hgb : ∀ (i b' : Nat), R.φ[i]? = some b' → (R.grown k b e c').H.get b' = R.H.get b' := fun i b' hb => by
    have hm := List.mem_of_getElem? hb
    exact grown_get (fun h => (hr.sep k b hk).1 (h ▸ hm)) (hr.lt b' hm)
  refine { hr := ?_, pre := hs.φ, M := rfl, nx := by omega, eff := ?_, bl := t2, w1 := fun i hi => (t4 i).2 (.inl hi), w2 := fun i hi hl => (t4 i).2 (.inr ⟨hi, hl⟩), w3 := fun i hi => ?_, keep := ?_, tok := ?_, box := fun i b h => .inl h, rd := fun v u h => Rd.fate hs hf h, low := low_turn (nice_fate _) (low_fate _) _ S, same := same_turn _ _ S }
  · refine { len := by rw [t1]; exact hr.len, nodup := hr.nodup, lt := fun b' hb => by have := hr.lt b' hb; omega, inj := ?_, sep := ?_, fr := fun b' hb => hr.fr b' (by omega), dom := ?_, own := ?_, blk := ?_ }
    · intro k1 k2 b' h1 h2
      simp only [Rl.grown] at h1 h2
      split at h1
      · rename_i e1
        split at h2
        · rename_i e2; rw [e1, e2]
        · cases h1; have := (hr.sep k2 _ h2).2; omega
      · split at h2
        · cases h2; have := (hr.sep k1 _ h1).2; omega
        · exact hr.inj k1 k2 b' h1 h2
    · intro k1 b' h
      simp only [Rl.grown] at h
      rw [hn]
      split at h
      · cases h; exact ⟨fun hb => by have := hr.lt _ hb; omega, by omega⟩
      · have := hr.sep k1 b' h; exact ⟨this.1, by omega⟩
    · intro i o b' h
      simp only [Rl.grown] at h
      split at h
      · rename_i e1; rw [← e1] at hk; exact hr.dom i o b hk
      · exact hr.dom i o b' h
    · intro k1 b' h
      simp only [Rl.grown] at h
      split at h
      · cases h; exact hr.fr _ (Nat.le_refl _)
      · exact hr.own k1 b' h
    · refine turn_br (R1 := R.grown k b e c') (fun i b B hB => map_br hs' hf' (hto i) hB) (ownBox k) S (fun i b' hb hi => ?_) (fun i b' hb => ?_)
      · have hkk : ∀ o, (fun k' => if k' = k then Fate.drop else Fate.keep) (i, some o) = .keep := by
          intro o
          simp only
          rw [if_neg]
          exact fun h => hi (hob i o h.symm)
        have := map_br hs hf (hto i) (hr.blk i b' hb)
        rw [same_br hkk (hr.blk i b' hb)] at this
        rw [hgb i b' hb]
        exact this
      · rw [hgb i b' hb]
        exact map_br hs hf (hto i) (hr.blk i b' hb)
  · intro b' hb hw hkf
    refine grown_get (fun h => ?_) hb
    obtain ⟨k1, k2⟩ := k
    cases k2 with
    | none => exact hkf rfl k1 (h ▸ hk)
    | some o => exact (hw k1 (by simp [ownBox])).2 o (h ▸ hk)
  · rcases (t4 i).1 hi with h | h
    · exact .inl h
    · exact .inr h.2
  · intro i hi hw o
    simp only [Rl.grown]
    rw [if_neg]
    intro h
    exact hw ((t4 i).2 (.inr ⟨hob i o h.symm, hi⟩))
  · intro k1 b' h
    simp only [Rl.grown] at h
    split at h
    · cases h; exact .inr (.inr (Nat.le_refl _))
    · exact .inl h
theorem cellsL_append (l m : List Value) : cellsL (l ++ m) = cellsL l ++ cellsL m := by simp [cellsL]
/-- What is appended. -/
theorem elems_ok {sz : Nat} {x u : Value} {new : List Value} (hx : Rd R x u) (h : velems sz x = some new) : ∃ c, acells sz u (alenOf u) R.H = some c ∧ RdL R (cellsL new) c ∧ alenOf u = new.length ∧ okvL 0 true new = true ∧ (∀ y ∈ new, y.cells.size = sz) := by
  unfold velems at h
  split at h
  · rename_i d s l hv
    obtain rfl := hx.is_ro hv
    obtain ⟨b, off, rfl, h0, hh⟩ := hx.inv_ro
    split at h
    · rename_i hs
      cases h
      subst hs
      rcases hh with rfl | ⟨o, el, c, hp, hM, hg, hl, hsz, hok, hc⟩
      · exact ⟨[], by simp [acells, alenOf, cellsAt], .nil, rfl, rfl, by simp⟩
      · refine ⟨(c.drop off).take (new.length * s), ?_, hc, rfl, hok, hsz⟩
        simp only [acells, alenOf, if_true, cellsAt, hg]
        by_cases hn : new.length * s = 0
        · rw [if_pos hn, hn]; rfl
        · rw [if_neg hn, if_pos ⟨hl, trivial⟩]
    · cases h
  · rename_i k s off l hv
    obtain rfl := hx.is_own hv
    obtain ⟨b, el, c, rfl, h0, hρ, hg, hl, hsz, hok, hc⟩ := hx.inv_own
    split at h
    · rename_i hs
      cases h
      subst hs
      refine ⟨(c.drop (off * s)).take (new.length * s), ?_, hc, rfl, hok, hsz⟩
      simp only [acells, alenOf, if_true, cellsAt, hg]
      by_cases hn : new.length * s = 0
      · rw [if_pos hn, hn]; rfl
      · rw [if_neg hn, if_pos ⟨hl, trivial⟩]
    · cases h
  · split at h
    · cases h
      rw [hx.inv_slice0]
      exact ⟨[], rfl, .nil, rfl, rfl, by simp⟩
    · rename_i s _ _
      have hsz : s.data.toList.length = s.size := Array.length_toList
      rw [hx.inv_string]
      split at h
      · rename_i hs
        cases h
        subst hs
        have e1 : ∀ l : List UInt8, cellsL (l.map fun b => Value.int .u8 b.toNat) = l.map fun b => Value.int .u8 b.toNat := by
          intro l
          induction l with
          | nil => rfl
          | cons a l ih => simp only [cellsL, List.map_cons, List.flatMap_cons] at ih ⊢; rw [ih]; rfl
        refine ⟨s.data.toList.map fun b => .int .u8 b.toNat, ?_, ?_, ?_, ?_, ?_⟩
        · simp only [acells, alenOf, if_true]
          rw [List.take_of_length_le (by omega)]
        · rw [e1]; exact RdL.map _ fun x _ => .int _ _
        · rw [List.length_map, hsz]; rfl
        · rw [okvL_eq, List.all_eq_true]
          intro y hy
          simp only [List.mem_map] at hy
          obtain ⟨b, _, rfl⟩ := hy
          rfl
        · intro y hy
          simp only [List.mem_map] at hy
          obtain ⟨b, _, rfl⟩ := hy
          rfl
      · cases h
    · cases h
def VOk (P : Program) (R : Rl) (S : VH) (r : VRes) (o : Option Res) : Prop := ∃ u H1 R1, o = some (.val u H1) ∧ R1.H = H1 ∧ Nxt R R1 S r.S r.ws r.kf r.g ∧ Rd R1 r.v u
theorem Nxt.refl (hr : HRel R S.all) : Nxt R R S S [] false [] where
  hr := hr
  pre := fun _ _ h => h
  M := rfl
  nx := Nat.le_refl _
  eff := fun _ _ _ _ => rfl
  bl := rfl
  w1 := fun _ h => h
  w2 := fun _ h => (by cases h)
  w3 := fun _ h => .inl h
  keep := fun _ _ _ _ => rfl
  tok := fun _ _ h => .inl h
  box := fun _ _ h => .inl h
  rd := fun _ _ h => h
  low := fun h => h
  same := fun _ _ _ => rfl
theorem thaw1_eq (S : VH) (d : Nat) : S.thaw [(d, none)] = S := rfl
theorem append_ok (hr : HRel R S.all) {d : Nat} {st xt : TypeId} {s x s' x' : Value} {r : VRes} (hs : Rd R s s') (hx : Rd R x x') (h : vappend P d st xt s x S = some r) : VOk P R S r ((aappend P st xt s' x' R.H).map fun r => .val r.1 r.2) := by
  unfold vappend at h
  simp only [Option.bind_eq_some_iff] at h
  obtain ⟨e, he, ⟨sz, bytes⟩, hi, h⟩ := h
  split at h
  · rename_i hh
    simp only [Option.bind_eq_some_iff] at h
    obtain ⟨new, hnew, h⟩ := h
    obtain ⟨c, hc1, hc2, hc3, hc4, hc5⟩ := elems_ok hx hnew
    rw [aappend_eq he hi hh.1, hc1, hc3]
    simp only [Option.bind_some]
    have hclen : c.length = new.length * sz := by rw [← hc2.1, cellsL_len hc5]
    unfold vgrow at h
    split at h
    · rename_i h0
      subst h0
      split at h
      · rename_i hsl
        cases h
        simp only [List.length_nil]
        simp only [Bool.or_eq_true] at hsl
        rcases hsl with hsl | hsl
        · unfold isSl at hsl
          split at hsl
          · rename_i d' sz' l hv
            obtain rfl := hs.is_ro hv
            obtain ⟨b, off, rfl, _⟩ := hs.inv_ro
            exact ⟨_, _, R, rfl, rfl, .refl hr, hs⟩
          · rename_i k sz' off l hv
            obtain rfl := hs.is_own hv
            obtain ⟨b, el, cc, rfl, _⟩ := hs.inv_own
            exact ⟨_, _, R, rfl, rfl, .refl hr, hs⟩
          · cases hsl
        · unfold isNilSlice at hsl
          split at hsl
          · rw [hs.inv_slice0]
            exact ⟨_, _, R, rfl, rfl, .refl hr, .scal _ rfl⟩
          · cases hsl
      · cases h
    · rename_i hne
      have hpos : new.length ≠ 0 := fun h => hne (by simpa using h)
      split at h
      · rename_i k sz' off l hv
        obtain rfl := hs.is_own hv
        obtain ⟨b, el, cc, rfl, h0, hρ, hg, hl, hsz, hok, hcc⟩ := hs.inv_own
        split at h
        · rename_i hb
          cases h
          obtain ⟨rfl, hb1, hb2⟩ := hb
          have hlen : ((cc.drop (off * sz')).take (l.length * sz') ++ c).length = (l ++ new).length * sz' := by
            rw [List.length_append, ← hcc.1, cellsL_len hsz, hclen, List.length_append, Nat.add_mul]
          have hall0 := hcc.append hc2
          rw [← cellsL_append] at hall0
          refine ⟨.slice (some ⟨R.H.next, 0, none⟩) (l.length + new.length) sz', _, R.grown k b (agT el e (off * sz')) ((cc.drop (off * sz')).take (l.length * sz') ++ c), ?_, rfl, grow_step hr hρ _ _, ?_⟩
          · simp only [agrow2, if_neg hpos, hg]
            rw [if_pos ⟨trivial, trivial, hl, hb1, hb2⟩]
            rfl
          · generalize (cc.drop (off * sz')).take (l.length * sz') ++ c = W at hlen hall0 ⊢
            have hss : Stays R (R.grown k b (agT el e (off * sz')) W) := by
              refine grow_stays (fun i b hb => hb) (fun b hb => .inl hb) (fun k' b' h => ?_) rfl (by simp only [Rl.grown]; rw [next_push, next_put]; omega) fun b' hb => grown_get (fun h => hb.2.2 k (h ▸ hρ)) hb.1
              simp only [Rl.grown] at h
              split at h
              · cases h; exact .inr (Nat.le_refl _)
              · exact .inl h
            have hok2 : okvL 0 true (l ++ new) = true := by rw [okvL_eq, List.all_append, ← okvL_eq, ← okvL_eq, hok, hc4]; rfl
            have hall : RdL (R.grown k b (agT el e (off * sz')) W) (cellsL (l ++ new)) W := ⟨hall0.1, fun i => Rd.free hss (hall0.2 i) (toks_getD (free_cellsL hok2) i)⟩
            have := Rd.own (R := R.grown k b (agT el e (off * sz')) W) k sz' 0 (l ++ new) R.H.next (agT el e (off * sz')) W h0 (by simp [Rl.grown]) (by simp only [Rl.grown]; rw [get_push, next_put, if_pos rfl]) (by omega) (fun x hx => by
              rcases List.mem_append.1 hx with h | h
              · exact hsz x h
              · exact hc5 x h) hok2 (by rw [Nat.zero_mul, List.drop_zero, List.take_of_length_le (by omega)]; exact hall.2)
            rw [Nat.zero_mul, List.length_append] at this
            exact this
        · cases h
      · split at h
        · rw [hs.inv_slice0]
          split at h
          · rename_i hb
            cases h
            have t1 := thaw_step hr [(d, none)] (by simp)
            rw [thaw1_eq] at t1
            have t2 := push_own (S := S) t1.hr d (by simp [Rl.less]) (slT e) c
            have ht := t1.trans t2 (by
              intro b' hb' _ _
              have := t2.eff b' hb' (by simp) (by simp)
              exact this) (by simp)
            refine ⟨.slice (some ⟨R.H.next, 0, none⟩) new.length sz, _, _, ?_, rfl, ht, ?_⟩
            · simp only [agrow2, if_neg hpos]
              rw [if_pos ⟨hb.1, hb.2⟩]
              rfl
            · have hm : RdL { R.less [(d, none)] with ρ := fun k => if k = (d, none) then some (R.less [(d, none)]).H.next else (R.less [(d, none)]).ρ k, H := (R.less [(d, none)]).H.push (.cells true (slT e) c) } (cellsL new) c := ⟨hc2.1, fun i => by
                have := ht.rd _ _ (hc2.2 i)
                simp only [List.append_nil, turns, List.foldl_cons, List.foldl_nil] at this
                rwa [mapOwn_free (g := thaw [(d, none)]) (nice_fate _) _ (toks_getD (free_cellsL hc4) i)] at this⟩
              exact rd_new (b := R.H.next) (t := slT e) hh.2 (by simp [Rl.less]) (by simp only [Rl.less]; rw [get_push, if_pos rfl]) hclen hc5 hc4 hm
          · cases h
        · cases h
  · cases h
end
end Go.Proofs.YtmdpggecelheoaaDoor.Abs
