/- Appending and building over values with their slices. -/
import Derived.Test.YtliemjbafgnnbaaDoorMW2
set_option maxHeartbeats 0
set_option linter.unnecessarySimpa false
set_option linter.unusedSimpArgs false
set_option linter.unusedVariables false
namespace Go.Proofs.YtliemjbafgnnbaaDoor.Abs
open Go
mutual
theorem zafh {f f' : Tok → Fate} : ∀ v : Value, (∀ k ∈ toks v, f k = f' k) → mapOwn (fate f) v = mapOwn (fate f') v
 | .func g x y, h => by
  cases g with
  | func i =>
   simp only [toks, List.mem_append] at h
   simp only [mapOwn, zaep x fun k hk => h k (.inl hk), zaep y fun k hk => h k (.inr hk)]
  | _ =>
   simp only [mapOwn]
   simp only [toks] at h
   unfold fate
   split
   ·rename_i k sz off l hv; simp only [hv, List.mem_singleton, forall_eq] at h; simp only [h]
   ·rename_i k j x hv; simp only [hv, List.mem_singleton, forall_eq] at h; simp only [h]
   ·rename_i k x hv; simp only [hv, List.mem_singleton, forall_eq] at h; simp only [h]
   ·rfl
 | .iface t v, h => by simp only [toks] at h; simp only [mapOwn, zafh v h]
 | .agg x, h => by simp only [toks] at h; simp only [mapOwn, zaep x h]
 | .tuple x, h => by simp only [toks] at h; simp only [mapOwn, zaep x h]
 | .bool _, _ => rfl
 | .int .., _ => rfl
 | .float .., _ => rfl
 | .complex .., _ => rfl
 | .string _, _ => rfl
 | .pointer _, _ => rfl
 | .slice .., _ => rfl
 | .map _, _ => rfl
 | .chan _, _ => rfl
 | .nilFunc, _ => rfl
 | .nilIface, _ => rfl
theorem zaep {f f' : Tok → Fate} : ∀ x : Array Value, (∀ k ∈ toksA x, f k = f' k) → mapOwnA (fate f) x = mapOwnA (fate f') x
 | ⟨x⟩, h => by simp only [toksA] at h; simp only [mapOwnA, zah0 x h]
theorem zah0 {f f' : Tok → Fate} : ∀ x : List Value, (∀ k ∈ toksL x, f k = f' k) → mapOwnL (fate f) x = mapOwnL (fate f') x
 | [], _ => rfl
 | a :: x, h => by
  simp only [toksL, List.mem_append] at h
  simp only [mapOwnL, zafh a fun k hk => h k (.inl hk), zah0 x fun k hk => h k (.inr hk)]
end
theorem zai9 {ks : List Tok} {v : Value} (h : ∀ k ∈ toks v, k ∈ ks) : mapOwn thawAll v = mapOwn (thaw ks) v := by
 refine zafh v fun k hk => ?_
 rw [if_pos (h k hk)]
section
variable {R R1 : Rl} {S : VH} {P : Program}
def Rl.grown (R : Rl) (k : Tok) (b : Nat) (e : TypeId) (c' : List Value) : Rl := { R with ρ := fun k' => if k' = k then some R.H.next else R.ρ k', H := (R.H.put b .dead).push (.cells true e c') }
theorem zag8 {k : Tok} {b b' : Nat} {e : TypeId} {c' : List Value} (h : b' ≠ b) (hl : b' < R.H.next) : (R.grown k b e c').H.get b' = R.H.get b' := by
 simp only [Rl.grown]
 rw [zaab, zaaf, if_neg (by omega), zaan, if_neg h]
theorem zavd (hr : HRel R S.all) {k : Tok} {b : Nat} (hk : R.ρ k = some b) (e : TypeId) (c' : List Value) :
    Nxt R (R.grown k b e c') S (S.turn (scrub k) (ownBox k)) (ownBox k) k.2.isNone [scrub k] := by
 have hn : (R.grown k b e c').H.next = R.H.next + 1 := by simp only [Rl.grown]; rw [zaad, zaaf]
 have hs : Stays R (R.grown k b e c') := by
  refine zaew (fun i b hb => hb) (fun b hb => .inl hb) (fun k' b' h => ?_) rfl (by omega) fun b' hb => zag8 (fun h => hb.2.2 k (h ▸ hk)) hb.1
  simp only [Rl.grown] at h
  split at h
  ·cases h; exact .inr (Nat.le_refl _)
  ·exact .inl h
 have hf : FateOk R (R.grown k b e c') (fun k' => if k' = k then .drop else .keep) := by
  constructor
  ·intro k' b' h hh
   split at hh
   ·cases hh
   ·rename_i hne
    refine ⟨by simp only [Rl.grown, if_neg hne]; exact h, zag8 (fun hb => hne (hr.inj k' k b (hb ▸ h) hk)) (hr.sep k' b' h).2⟩
  ·intro k' b' d h hh; split at hh <;> cases hh
  ·intro k' b' k'' h hh; split at hh <;> cases hh
 have hf' : FateOk (R.grown k b e c') (R.grown k b e c') (fun k' => if k' = k then .drop else .keep) := by
  constructor
  ·intro k' b' h hh; exact ⟨h, rfl⟩
  ·intro k' b' d h hh; split at hh <;> cases hh
  ·intro k' b' k'' h hh; split at hh <;> cases hh
 have hs' : Stays (R.grown k b e c') (R.grown k b e c') := ⟨fun _ _ h => h, fun _ h => ⟨h, rfl⟩, fun _ _ _ h => h⟩
 have hto : ∀ (i o : Nat) (k' : Tok), (fun k' => if k' = k then Fate.drop else Fate.keep) (i, some o) ≠ .to k' := by
  intro i o k' h
  simp only at h
  split at h <;> cases h
 obtain ⟨t1, t2, t3, t4⟩ := VH.turn_all (scrub k) (ownBox k) S fun _ _ _ => trivial
 have hob : ∀ i o, k = (i, some o) → i ∈ ownBox k := by rintro i o rfl; simp [ownBox]
 have hgb : ∀ (i b' : Nat), R.φ[i]? = some b' → (R.grown k b e c').H.get b' = R.H.get b' := fun i b' hb => by
  have hm := List.mem_of_getElem? hb
  exact zag8 (fun h => (hr.sep k b hk).1 (h ▸ hm)) (hr.lt b' hm)
 refine { hr := ?_, pre := hs.φ, M := rfl, nx := by omega, eff := ?_, bl := t2, w1 := fun i hi => (t4 i).2 (.inl hi), w2 := fun i hi hl => (t4 i).2 (.inr ⟨hi, hl⟩), w3 := fun i hi => ?_, keep := ?_, tok := ?_, box := fun i b h => .inl h, rd := fun v u h => Rd.fate hs hf h, low := zane (zabk _) (zasq _) _ S, same := zak1 _ _ S }
 ·refine { len := by rw [t1]; exact hr.len, nodup := hr.nodup, lt := fun b' hb => by have := hr.lt b' hb; omega, inj := ?_, sep := ?_, fr := fun b' hb => hr.fr b' (by omega), dom := ?_, own := ?_, blk := ?_ }
  ·intro k1 k2 b' h1 h2
   simp only [Rl.grown] at h1 h2
   split at h1
   ·rename_i e1
    split at h2
    ·rename_i e2; rw [e1, e2]
    ·cases h1; have := (hr.sep k2 _ h2).2; omega
   ·split at h2
    ·cases h2; have := (hr.sep k1 _ h1).2; omega
    ·exact hr.inj k1 k2 b' h1 h2
  ·intro k1 b' h
   simp only [Rl.grown] at h
   rw [hn]
   split at h
   ·cases h; exact ⟨fun hb => by have := hr.lt _ hb; omega, by omega⟩
   ·have := hr.sep k1 b' h; exact ⟨this.1, by omega⟩
  ·intro i o b' h
   simp only [Rl.grown] at h
   split at h
   ·rename_i e1; rw [← e1] at hk; exact hr.dom i o b hk
   ·exact hr.dom i o b' h
  ·intro k1 b' h
   simp only [Rl.grown] at h
   split at h
   ·cases h; exact hr.fr _ (Nat.le_refl _)
   ·exact hr.own k1 b' h
  ·refine zaxv (R1 := R.grown k b e c') (fun i b B hB => map_br hs' hf' (hto i) hB) (ownBox k) S (fun i b' hb hi => ?_) (fun i b' hb => ?_)
   ·have hkk : ∀ o, (fun k' => if k' = k then Fate.drop else Fate.keep) (i, some o) = .keep := by
     intro o
     simp only
     rw [if_neg]
     exact fun h => hi (hob i o h.symm)
    have := map_br hs hf (hto i) (hr.blk i b' hb)
    rw [zamg hkk (hr.blk i b' hb)] at this
    rw [hgb i b' hb]
    exact this
   ·rw [hgb i b' hb]
    exact map_br hs hf (hto i) (hr.blk i b' hb)
 ·intro b' hb hw hkf
  refine zag8 (fun h => ?_) hb
  obtain ⟨k1, k2⟩ := k
  cases k2 with
  | none => exact hkf rfl k1 (h ▸ hk)
  | some o => exact (hw k1 (by simp [ownBox])).2 o (h ▸ hk)
 ·rcases (t4 i).1 hi with h | h
  ·exact .inl h
  ·exact .inr h.2
 ·intro i hi hw o
  simp only [Rl.grown]
  rw [if_neg]
  intro h
  exact hw ((t4 i).2 (.inr ⟨hob i o h.symm, hi⟩))
 ·intro k1 b' h
  simp only [Rl.grown] at h
  split at h
  ·cases h; exact .inr (.inr (Nat.le_refl _))
  ·exact .inl h
theorem zall (l m : List Value) : cellsL (l ++ m) = cellsL l ++ cellsL m := by simp [cellsL]
theorem zazt {sz : Nat} {x u : Value} {new : List Value} (hx : Rd R x u) (h : velems sz x = some new) : ∃ c, acells sz u (alenOf u) R.H = some c ∧ RdL R (cellsL new) c ∧ alenOf u = new.length ∧ okvL 0 true new = true ∧ (∀ y ∈ new, y.cells.size = sz) := by
 unfold velems at h
 split at h
 ·rename_i d s l hv
  obtain rfl := hx.is_ro hv
  obtain ⟨b, off, rfl, h0, hh⟩ := hx.inv_ro
  split at h
  ·rename_i hs
   cases h
   subst hs
   rcases hh with rfl | ⟨o, el, c, hp, hM, hg, hl, hsz, hok, hc⟩
   ·exact ⟨[], by simp [acells, alenOf, cellsAt], .nil, rfl, rfl, by simp⟩
   ·refine ⟨(c.drop off).take (new.length * s), ?_, hc, rfl, hok, hsz⟩
    simp only [acells, alenOf, if_true, cellsAt, hg]
    by_cases hn : new.length * s = 0
    ·rw [if_pos hn, hn]; rfl
    ·rw [if_neg hn, if_pos ⟨hl, trivial⟩]
  ·cases h
 ·rename_i k s off l hv
  obtain rfl := hx.is_own hv
  obtain ⟨b, el, c, rfl, h0, hρ, hg, hl, hsz, hok, hc⟩ := hx.inv_own
  split at h
  ·rename_i hs
   cases h
   subst hs
   refine ⟨(c.drop (off * s)).take (new.length * s), ?_, hc, rfl, hok, hsz⟩
   simp only [acells, alenOf, if_true, cellsAt, hg]
   by_cases hn : new.length * s = 0
   ·rw [if_pos hn, hn]; rfl
   ·rw [if_neg hn, if_pos ⟨hl, trivial⟩]
  ·cases h
 ·split at h
  ·cases h
   rw [hx.inv_slice0]
   exact ⟨[], rfl, .nil, rfl, rfl, by simp⟩
  ·rename_i s _ _
   have hsz : s.data.toList.length = s.size := Array.length_toList
   rw [hx.inv_string]
   split at h
   ·rename_i hs
    cases h
    subst hs
    have e1 : ∀ l : List UInt8, cellsL (l.map fun b => Value.int .u8 b.toNat) = l.map fun b => Value.int .u8 b.toNat := by
     intro l
     induction l with
     | nil => rfl
     | cons a l ih => simp only [cellsL, List.map_cons, List.flatMap_cons] at ih ⊢; rw [ih]; rfl
    refine ⟨s.data.toList.map fun b => .int .u8 b.toNat, ?_, ?_, ?_, ?_, ?_⟩
    ·simp only [acells, alenOf, if_true]
     rw [List.take_of_length_le (by omega)]
    ·rw [e1]; exact RdL.map _ fun x _ => .int _ _
    ·rw [List.length_map, hsz]; rfl
    ·rw [zade, List.all_eq_true]
     intro y hy
     simp only [List.mem_map] at hy
     obtain ⟨b, _, rfl⟩ := hy
     rfl
    ·intro y hy
     simp only [List.mem_map] at hy
     obtain ⟨b, _, rfl⟩ := hy
     rfl
   ·cases h
  ·cases h
def VOk (P : Program) (R : Rl) (S : VH) (r : VRes) (o : Option Res) : Prop := ∃ u H1 R1, o = some (.val u H1) ∧ R1.H = H1 ∧ Nxt R R1 S r.S r.ws r.kf r.g ∧ Rd R1 r.v u
theorem Nxt.refl (hr : HRel R S.all) : Nxt R R S S [] false [] where
 hr := hr
 pre := fun _ _ h => h
 M := rfl
 nx := Nat.le_refl _
 eff := fun _ _ _ _ => rfl
 bl := rfl
 w1 := fun _ h => h
 w2 := fun _ h => (by cases h)
 w3 := fun _ h => .inl h
 keep := fun _ _ _ _ => rfl
 tok := fun _ _ h => .inl h
 box := fun _ _ h => .inl h
 rd := fun _ _ h => h
 low := fun h => h
 same := fun _ _ _ => rfl
theorem zatr (S : VH) (d : Nat) : S.thaw [(d, none)] = S := rfl
theorem zaut (hr : HRel R S.all) {d : Nat} {st xt : TypeId} {s x s' x' : Value} {r : VRes} (hs : Rd R s s') (hx : Rd R x x') (h : vappend P d st xt s x S = some r) : VOk P R S r ((aappend P st xt s' x' R.H).map fun r => .val r.1 r.2) := by
 unfold vappend at h
 simp only [Option.bind_eq_some_iff] at h
 obtain ⟨e, he, ⟨sz, bytes⟩, hi, h⟩ := h
 split at h
 ·rename_i hh
  simp only [Option.bind_eq_some_iff] at h
  obtain ⟨new, hnew, h⟩ := h
  obtain ⟨c, hc1, hc2, hc3, hc4, hc5⟩ := zazt hx hnew
  rw [zald he hi hh.1, hc1, hc3]
  simp only [Option.bind_some]
  have hclen : c.length = new.length * sz := by rw [← hc2.1, zadv hc5]
  unfold vgrow at h
  split at h
  ·rename_i h0
   subst h0
   split at h
   ·rename_i hsl
    cases h
    simp only [List.length_nil]
    simp only [Bool.or_eq_true] at hsl
    rcases hsl with hsl | hsl
    ·unfold isSl at hsl
     split at hsl
     ·rename_i d' sz' l hv
      obtain rfl := hs.is_ro hv
      obtain ⟨b, off, rfl, _⟩ := hs.inv_ro
      exact ⟨_, _, R, rfl, rfl, .refl hr, hs⟩
     ·rename_i k sz' off l hv
      obtain rfl := hs.is_own hv
      obtain ⟨b, el, cc, rfl, _⟩ := hs.inv_own
      exact ⟨_, _, R, rfl, rfl, .refl hr, hs⟩
     ·cases hsl
    ·unfold isNilSlice at hsl
     split at hsl
     ·rw [hs.inv_slice0]
      exact ⟨_, _, R, rfl, rfl, .refl hr, .scal _ rfl⟩
     ·cases hsl
   ·cases h
  ·rename_i hne
   have hpos : new.length ≠ 0 := fun h => hne (by simpa using h)
   split at h
   ·rename_i k sz' off l hv
    obtain rfl := hs.is_own hv
    obtain ⟨b, el, cc, rfl, h0, hρ, hg, hl, hsz, hok, hcc⟩ := hs.inv_own
    split at h
    ·rename_i hb
     cases h
     obtain ⟨rfl, hb1, hb2⟩ := hb
     have hlen : ((cc.drop (off * sz')).take (l.length * sz') ++ c).length = (l ++ new).length * sz' := by
      rw [List.length_append, ← hcc.1, zadv hsz, hclen, List.length_append, Nat.add_mul]
     have hall0 := hcc.append hc2
     rw [← zall] at hall0
     refine ⟨.slice (some ⟨R.H.next, 0, none⟩) (l.length + new.length) sz', _, R.grown k b (agT el e (off * sz')) ((cc.drop (off * sz')).take (l.length * sz') ++ c), ?_, rfl, zavd hr hρ _ _, ?_⟩
     ·simp only [agrow2, if_neg hpos, hg]
      rw [if_pos ⟨trivial, trivial, hl, hb1, hb2⟩]
      rfl
     ·generalize (cc.drop (off * sz')).take (l.length * sz') ++ c = W at hlen hall0 ⊢
      have hss : Stays R (R.grown k b (agT el e (off * sz')) W) := by
       refine zaew (fun i b hb => hb) (fun b hb => .inl hb) (fun k' b' h => ?_) rfl (by simp only [Rl.grown]; rw [zaad, zaaf]; omega) fun b' hb => zag8 (fun h => hb.2.2 k (h ▸ hρ)) hb.1
       simp only [Rl.grown] at h
       split at h
       ·cases h; exact .inr (Nat.le_refl _)
       ·exact .inl h
      have hok2 : okvL 0 true (l ++ new) = true := by rw [zade, List.all_append, ← zade, ← zade, hok, hc4]; rfl
      have hall : RdL (R.grown k b (agT el e (off * sz')) W) (cellsL (l ++ new)) W := ⟨hall0.1, fun i => Rd.free hss (hall0.2 i) (zaaz (zadj hok2) i)⟩
      have := Rd.own (R := R.grown k b (agT el e (off * sz')) W) k sz' 0 (l ++ new) R.H.next (agT el e (off * sz')) W h0 (by simp [Rl.grown]) (by simp only [Rl.grown]; rw [zaab, zaaf, if_pos rfl]) (by omega) (fun x hx => by
       rcases List.mem_append.1 hx with h | h
       ·exact hsz x h
       ·exact hc5 x h) hok2 (by rw [Nat.zero_mul, List.drop_zero, List.take_of_length_le (by omega)]; exact hall.2)
      rw [Nat.zero_mul, List.length_append] at this
      exact this
    ·cases h
   ·split at h
    ·rw [hs.inv_slice0]
     split at h
     ·rename_i hb
      cases h
      have t1 := zagj hr [(d, none)] (by simp)
      rw [zatr] at t1
      have t2 := zas6 (S := S) t1.hr d (by simp [Rl.less]) (slT e) c
      have ht := t1.trans t2 (by
       intro b' hb' _ _
       have := t2.eff b' hb' (by simp) (by simp)
       exact this) (by simp)
      refine ⟨.slice (some ⟨R.H.next, 0, none⟩) new.length sz, _, _, ?_, rfl, ht, ?_⟩
      ·simp only [agrow2, if_neg hpos]
       rw [if_pos ⟨hb.1, hb.2⟩]
       rfl
      ·have hm : RdL { R.less [(d, none)] with ρ := fun k => if k = (d, none) then some (R.less [(d, none)]).H.next else (R.less [(d, none)]).ρ k, H := (R.less [(d, none)]).H.push (.cells true (slT e) c) } (cellsL new) c := ⟨hc2.1, fun i => by
        have := ht.rd _ _ (hc2.2 i)
        simp only [List.append_nil, turns, List.foldl_cons, List.foldl_nil] at this
        rwa [zaau (g := thaw [(d, none)]) (zabk _) _ (zaaz (zadj hc4) i)] at this⟩
       exact rd_new (b := R.H.next) (t := slT e) hh.2 (by simp [Rl.less]) (by simp only [Rl.less]; rw [zaab, if_pos rfl]) hclen hc5 hc4 hm
     ·cases h
    ·cases h
 ·cases h
end
end Go.Proofs.YtliemjbafgnnbaaDoor.Abs
/- New slices, boxes and what comes to lie in them. -/
namespace Go.Proofs.YtliemjbafgnnbaaDoor.Abs
open Go
section
variable {R R1 : Rl} {S : VH} {P : Program}
theorem zasv (hr : HRel R S.all) (d : Nat) (ks : List Tok) (hl : ∀ k ∈ ks, k.2.isSome = true → k.1 < S.all.length) (t : TypeId) (c' : List Value) :
    ∃ R1 : Rl, R1.H = R.H.push (.cells true t c') ∧ Nxt R R1 S (S.thaw ((d, none) :: ks)) [] false [thaw ((d, none) :: ks)] ∧ R1.ρ (d, none) = some R.H.next := by
 have t1 := zagj hr ((d, none) :: ks) (by
  intro k hk h
  rcases List.mem_cons.1 hk with rfl | hk
  ·cases h
  ·exact hl k hk h)
 have t2 := zas6 (S := S.thaw ((d, none) :: ks)) t1.hr d (by simp [Rl.less]) t c'
 refine ⟨_, rfl, t1.trans t2 (fun b' hb' _ _ => t2.eff b' hb' (by simp) (by simp)) (by simp), ?_⟩
 simp [Rl.less]
theorem zamn (hr : HRel R S.all) {v u : Value} (h : Rd R v u) : ∀ k ∈ toks v, k.2.isSome = true → k.1 < S.all.length := by
 have key : ∀ (k : Tok) b, R.ρ k = some b → k.2.isSome = true → k.1 < S.all.length := by
  intro k b hk ho
  obtain ⟨i, o⟩ := k
  cases o with
  | none => cases ho
  | some o => have := hr.dom i o b hk; rwa [hr.len] at this
 have getm : ∀ (x : List Value) k, k ∈ x.flatMap toks → ∃ i, k ∈ toks (x.getD i undef) := by
  intro x k hk
  rw [List.mem_flatMap] at hk
  obtain ⟨a, ha, hk⟩ := hk
  obtain ⟨i, hi⟩ := List.getElem?_of_mem ha
  exact ⟨i, by rw [List.getD_eq_getElem?_getD, hi]; exact hk⟩
 induction h with
 | scal v h => intro k hk; rw [zao9 h] at hk; cases hk
 | clo f x y x' y' h1 h2 _ _ ih1 ih2 =>
  intro k hk
  rw [zajb, List.mem_append] at hk
  rcases hk with hk | hk
  ·obtain ⟨i, hi⟩ := getm x k hk; exact ih1 i k hi
  ·obtain ⟨i, hi⟩ := getm y k hk; exact ih2 i k hi
 | iface t v u _ ih => intro k hk; rw [zae8] at hk; exact ih k hk
 | agg x y h1 _ ih => intro k hk; rw [zaf5] at hk; obtain ⟨i, hi⟩ := getm x k hk; exact ih i k hi
 | tuple x y h1 _ ih => intro k hk; rw [zaf6] at hk; obtain ⟨i, hi⟩ := getm x k hk; exact ih i k hi
 | own k sz j l b el c h0 hρ => intro k' hk; rw [zah2, List.mem_singleton] at hk; subst hk; exact key k' b hρ
 | atOwn k sz j v b el c h0 hρ => intro k' hk; rw [zats, List.mem_singleton] at hk; subst hk; exact key k' b hρ
 | inOwn k v b off el c hρ => intro k' hk; rw [zatt, List.mem_singleton] at hk; subst hk; exact key k' b hρ
 | _ => intro k hk; cases hk
theorem zave {ρ : Operand → Value} {H : Hp} {t : TypeId} {n : Nat} {ps : Array (Nat × Operand)} : hop P ρ H (.buildSlice t n ps) = (abuild P t n (ps.toList.map fun p => (p.1, ρ p.2))).map fun c => .val (.slice (some ⟨H.next, 0, none⟩) n c.1) (H.push (.cells true (slT c.2.1) c.2.2)) := by
 simp only [hop, abuild]
 cases h1 : P.underlying t with
 | none => rfl
 | some u =>
  cases u <;> try rfl
  rename_i elem
  cases h2 : P.info? elem with
  | none => simp only [h2]; rfl
  | some inf =>
   simp only [h2]
   cases inf.zero with
   | none => rfl
   | some z =>
    simp only [Option.bind_some, List.all_map, Function.comp_def]
    split
    ·simp only [Option.map_map]
     rfl
    ·rfl
theorem zamh : ∀ (l c : List Value) (i : Nat), (setAll c i l).length = c.length
 | [], _, _ => rfl
 | v :: l, c, i => by simp only [setAll]; rw [zamh l]; simp
theorem zab0 : ∀ (l c : List Value) (i j : Nat), i + l.length ≤ c.length → (setAll c i l)[j]? = if i ≤ j ∧ j < i + l.length then l[j - i]? else c[j]?
 | [], c, i, j, _ => by simp only [setAll, List.length_nil]; rw [if_neg (by omega)]
 | v :: l, c, i, j, h => by
  simp only [List.length_cons] at h
  simp only [setAll]
  rw [zab0 l _ (i + 1) j (by simp; omega)]
  by_cases hj : i + 1 ≤ j ∧ j < i + 1 + l.length
  ·rw [if_pos hj, if_pos (by simp only [List.length_cons]; omega), show j - i = (j - (i + 1)) + 1 by omega, List.getElem?_cons_succ]
  ·rw [if_neg hj]
   by_cases hij : i = j
   ·subst hij
    rw [if_pos (by simp only [List.length_cons]; omega), Nat.sub_self, List.getElem?_cons_zero, List.getElem?_set, if_pos rfl, if_pos (by omega)]
   ·rw [if_neg (by simp only [List.length_cons]; omega), List.getElem?_set_ne hij]
theorem zalm {sz : Nat} {l : List Value} (h : ∀ x ∈ l, x.cells.size = sz) {i : Nat} (hi : i < l.length) {v : Value} (hv : v.cells.size = sz) : cellsL (l.set i v) = setAll (cellsL l) (i * sz) v.cells.toList := by
 have hlen := zadv h
 have hvl : v.cells.toList.length = sz := by rw [Array.length_toList]; exact hv
 have hb : i * sz + sz ≤ l.length * sz := by
  have := Nat.mul_le_mul_right sz (show i + 1 ≤ l.length by omega)
  rwa [Nat.add_mul, Nat.one_mul] at this
 apply List.ext_getElem?
 intro j
 rw [zab0 _ _ _ _ (by rw [hvl, hlen]; exact hb), hvl]
 have hset : ∀ x ∈ l.set i v, x.cells.size = sz := by
  intro x hx
  rcases List.mem_or_eq_of_mem_set hx with hx | rfl
  ·exact h x hx
  ·exact hv
 have e1 : cellsL (l.set i v) = cellsL (l.take i) ++ (v.cells.toList ++ cellsL (l.drop (i + 1))) := by
  rw [List.set_eq_take_append_cons_drop, if_pos hi]
  simp [cellsL]
 have e2 : cellsL l = cellsL (l.take i) ++ (l[i].cells.toList ++ cellsL (l.drop (i + 1))) := by
  have h1 : cellsL l = cellsL (l.take i ++ l[i] :: l.drop (i + 1)) := by rw [← List.drop_eq_getElem_cons hi, List.take_append_drop]
  rw [h1]
  simp only [cellsL, List.flatMap_append, List.flatMap_cons]
 have e3 : (cellsL (l.take i)).length = i * sz := by
  rw [zadv fun x hx => h x (List.mem_of_mem_take hx), List.length_take, Nat.min_eq_left (by omega)]
 have e4 : l[i].cells.toList.length = sz := by rw [Array.length_toList]; exact h _ (List.getElem_mem hi)
 rw [e1]
 by_cases hj : j < i * sz
 ·rw [List.getElem?_append_left (by omega), if_neg (by omega), e2, List.getElem?_append_left (by omega)]
 ·rw [List.getElem?_append_right (by omega), e3]
  by_cases hj2 : j < i * sz + sz
  ·rw [List.getElem?_append_left (by omega), if_pos (by omega)]
  ·rw [List.getElem?_append_right (by omega), if_neg (by omega), e2, List.getElem?_append_right (by omega), e3, List.getElem?_append_right (by omega), e4, hvl]
theorem zaik (n : Nat) (z : Value) : cellsL (List.replicate n z) = (List.replicate n z.cells.toList).flatten := by
 induction n with
 | zero => rfl
 | succ n ih => simp only [List.replicate_succ, List.flatten_cons, cellsL, List.flatMap_cons] at ih ⊢; rw [ih]
theorem zaw5 {R1 : Rl} {sz len : Nat} {ρ ρ' : Operand → Value} : ∀ (ps : List (Nat × Operand)) (l c : List Value), l.length = len → (∀ x ∈ l, x.cells.size = sz) → okvL 0 true l = true → RdL R1 (cellsL l) c →
    (∀ p ∈ ps, p.1 < len ∧ isTup (ρ p.2) = false ∧ (ρ p.2).cells.size = sz ∧ okv 0 true (mapOwn thawAll (ρ p.2)) = true) → (∀ p ∈ ps, Rd R1 (mapOwn thawAll (ρ p.2)) (ρ' p.2)) →
    ∃ c', afill (fun i => some (i * sz, sz)) c (ps.map fun p => (p.1, ρ' p.2)) = some c' ∧ (vfill l (ps.map fun p => (p.1, mapOwn thawAll (ρ p.2)))).length = len ∧ (∀ x ∈ vfill l (ps.map fun p => (p.1, mapOwn thawAll (ρ p.2))), x.cells.size = sz) ∧
     okvL 0 true (vfill l (ps.map fun p => (p.1, mapOwn thawAll (ρ p.2)))) = true ∧ RdL R1 (cellsL (vfill l (ps.map fun p => (p.1, mapOwn thawAll (ρ p.2))))) c' := by
 intro ps
 induction ps with
 | nil => intro l c hl hsz hok hc _ _; exact ⟨c, rfl, hl, hsz, hok, hc⟩
 | cons p ps ih =>
  intro l c hl hsz hok hc hp hrd
  obtain ⟨h1, h2, h3, h4⟩ := hp p (by simp)
  have hr := hrd p (by simp)
  have htt : isTup (mapOwn thawAll (ρ p.2)) = false := by
   revert h2 h4
   generalize ρ p.2 = v
   intro h2 h4
   cases v with
   | func f x y =>
    cases f with
    | func i => obtain ⟨x⟩ := x; obtain ⟨y⟩ := y; rw [zaey]; rfl
    | _ =>
     simp only [mapOwn, thawAll, fate]
     split <;> rfl
   | agg x => obtain ⟨x⟩ := x; rw [zac2]; rfl
   | tuple => cases h2
   | chan => cases h2
   | _ => rfl
  have hsv : (mapOwn thawAll (ρ p.2)).cells.size = sz := by
   rw [← h3]
   revert h2
   generalize ρ p.2 = v
   intro h2
   cases v with
   | func f x y =>
    cases f with
    | func i => obtain ⟨x⟩ := x; obtain ⟨y⟩ := y; rw [zaey]; rfl
    | _ =>
     simp only [mapOwn, thawAll, fate]
     split <;> rfl
   | agg x => obtain ⟨x⟩ := x; rw [zac2]; simp [Value.cells]
   | tuple => cases h2
   | _ => rfl
  have hcu := hr.cells_size htt
  have hlen := zadv hsz
  have hb : p.1 * sz + sz ≤ l.length * sz := by
   have := Nat.mul_le_mul_right sz (show p.1 + 1 ≤ l.length by omega)
   rwa [Nat.add_mul, Nat.one_mul] at this
  have hset := zalm hsz (show p.1 < l.length by omega) hsv
  obtain ⟨c', g1, g2, g3, g4, g5⟩ := ih (l.set p.1 (mapOwn thawAll (ρ p.2))) (setAll c (p.1 * sz) (ρ' p.2).cells.toList) (by simpa using hl) (fun x hx => by
   rcases List.mem_or_eq_of_mem_set hx with hx | rfl
   ·exact hsz x hx
   ·exact hsv) (by
   rw [zade, List.all_eq_true] at hok ⊢
   intro x hx
   rcases List.mem_or_eq_of_mem_set hx with hx | rfl
   ·exact hok x hx
   ·exact h4) (by rw [hset]; exact hc.setAll (hr.cells htt) _) (fun q hq => hp q (by simp [hq])) (fun q hq => hrd q (by simp [hq]))
  refine ⟨c', ?_, g2, g3, g4, g5⟩
  simp only [List.map_cons, afill, Option.bind_some]
  rw [if_pos ⟨by rw [hcu]; exact hsv, by rw [← hc.1, hlen]; exact hb⟩]
  exact g1
theorem zazh (hr : HRel R S.all) {d : Nat} {ρ ρ' : Operand → Value} (hρ : ∀ x, Rd R (ρ x) (ρ' x)) {t : TypeId} {len : Nat} {ps : Array (Nat × Operand)} {r : Nat × List Value} (h : vbuild P t len (ps.toList.map fun p => (p.1, ρ p.2)) = some r) :
    VOk P R S ⟨vo (d, none) r.1 0 r.2, [thaw ((d, none) :: toksL (ps.toList.map fun p => ρ p.2))], S.thaw ((d, none) :: toksL (ps.toList.map fun p => ρ p.2)), [], false⟩ (hop P ρ' R.H (.buildSlice t len ps)) := by
 unfold vbuild at h
 simp only [Option.bind_eq_some_iff] at h
 obtain ⟨e, he, ⟨sz, bytes⟩, hi, z, hz, h⟩ := h
 split at h
 ·rename_i hh
  cases h
  obtain ⟨c1, c2, c3, c4, c5, c6, c7⟩ := hh
  rw [List.all_eq_true] at c7
  have hp : ∀ p ∈ ps.toList, p.1 < len ∧ isTup (ρ p.2) = false ∧ (ρ p.2).cells.size = sz ∧ okv 0 true (mapOwn thawAll (ρ p.2)) = true := by
   intro p hp
   have := c7 (p.1, ρ p.2) (List.mem_map.2 ⟨p, hp, rfl⟩)
   simp only [Bool.and_eq_true, decide_eq_true_eq, Bool.not_eq_true', beq_iff_eq] at this
   exact ⟨this.1.1.1, this.1.1.2, this.1.2, this.2⟩
  have hlt : ∀ k ∈ toksL (ps.toList.map fun p => ρ p.2), k.2.isSome = true → k.1 < S.all.length := by
   intro k hk
   rw [zacx, List.mem_flatMap] at hk
   obtain ⟨v, hv, hk⟩ := hk
   obtain ⟨p, hp, rfl⟩ := List.mem_map.1 hv
   exact zamn hr (hρ p.2) k hk
  have hrep : ∀ x ∈ List.replicate len z, x.cells.size = sz := fun x hx => by rw [(List.mem_replicate.1 hx).2]; exact c5
  have hbe : abuild P t len (ps.toList.map fun p => (p.1, ρ' p.2)) = (afill (fun i => some (i * sz, sz)) (List.replicate len z.cells.toList).flatten (ps.toList.map fun p => (p.1, ρ' p.2))).map fun cs => (sz, e, cs) := by
   rw [zan0 he hi hz c3 len _ c1, if_pos]
   rw [List.all_map]
   have := zajp hρ ps.toList (by rw [List.all_eq_true]; intro p hp'; simp [(hp p hp').2.1])
   exact this
  have step : ∀ c', ∃ R1 : Rl, R1.H = R.H.push (.cells true (slT e) c') ∧ Nxt R R1 S (S.thaw ((d, none) :: toksL (ps.toList.map fun p => ρ p.2))) [] false [thaw ((d, none) :: toksL (ps.toList.map fun p => ρ p.2))] ∧ R1.ρ (d, none) = some R.H.next := fun c' => zasv hr d _ hlt (slT e) c'
  have hparts : ∀ R1, Nxt R R1 S (S.thaw ((d, none) :: toksL (ps.toList.map fun p => ρ p.2))) [] false [thaw ((d, none) :: toksL (ps.toList.map fun p => ρ p.2))] → ∀ p ∈ ps.toList, Rd R1 (mapOwn thawAll (ρ p.2)) (ρ' p.2) := by
   intro R1 hn p hp'
   have := hn.rd _ _ (hρ p.2)
   simp only [turns, List.foldl_cons, List.foldl_nil] at this
   rwa [zai9 (ks := (d, none) :: toksL (ps.toList.map fun p => ρ p.2))]
   intro k hk
   refine List.mem_cons_of_mem _ ?_
   rw [zacx, List.mem_flatMap]
   exact ⟨_, List.mem_map.2 ⟨p, hp', rfl⟩, hk⟩
  have hzz : ∀ R1 : Rl, RdL R1 (cellsL (List.replicate len z)) (List.replicate len z.cells.toList).flatten := by
   intro R1
   rw [zaik]
   have : ∀ n, RdL R1 (List.replicate n z.cells.toList).flatten (List.replicate n z.cells.toList).flatten := by
    intro n
    induction n with
    | zero => exact .nil
    | succ n ih => simp only [List.replicate_succ, List.flatten_cons]; exact (zank c3 c6).append ih
   exact this len
  have hokz : okvL 0 true (List.replicate len z) = true := by
   rw [zade, List.all_eq_true]
   intro x hx
   rw [(List.mem_replicate.1 hx).2]; exact c4
  -- the cells do not hang on the new state
  obtain ⟨Rx, hx1, hx2, hx3⟩ := step []
  obtain ⟨c', g1, g2, g3, g4, g5⟩ := zaw5 (R1 := Rx) (ρ' := ρ') ps.toList _ _ (by simp) hrep hokz (hzz Rx) hp (hparts Rx hx2)
  obtain ⟨R1, h1, h2, h3⟩ := step c'
  obtain ⟨c'', k1, k2, k3, k4, k5⟩ := zaw5 (R1 := R1) (ρ' := ρ') ps.toList _ _ (by simp) hrep hokz (hzz R1) hp (hparts R1 h2)
  rw [g1] at k1
  cases k1
  refine ⟨.slice (some ⟨R.H.next, 0, none⟩) len sz, _, R1, ?_, rfl, h2, ?_⟩
  ·rw [zave, hbe, g1]
   simp only [Option.map_some]
   rw [h1]
  ·have := rd_new (R := R1) (b := R.H.next) (t := slT e) c2 h3 (by rw [h1, zaab, if_pos rfl]) (by rw [← g5.1, zadv g3]) g3 g4 k5
   rw [g2] at this
   have e1 : (ps.toList.map fun p => (p.1, ρ p.2)).map (fun p => (p.1, mapOwn thawAll p.2)) = ps.toList.map fun p => (p.1, mapOwn thawAll (ρ p.2)) := by rw [List.map_map]; rfl
   show Rd R1 (vo (d, none) sz 0 (vfill (List.replicate len z) ((ps.toList.map fun p => (p.1, ρ p.2)).map fun p => (p.1, mapOwn thawAll p.2)))) _
   rw [e1]
   exact this
 ·cases h
end
end Go.Proofs.YtliemjbafgnnbaaDoor.Abs
/- What comes to lie in a box. -/
namespace Go.Proofs.YtliemjbafgnnbaaDoor.Abs
open Go
theorem zahu {n : Nat} {outer : Bool} {i : Nat} : ∀ (cs : List Value) (o : Nat), cellsOk n outer i o cs = true → ∀ (j : Nat) x, cs[j]? = some x →
    ((toks x = [] ∧ isTup x = false ∧ okv n outer x = true) ∨ ∃ k, ownTok x = some k ∧ (k.2 = none ∨ k = (i, some (o + j)))) ∧ ∀ (j' : Nat) y k, j < j' → cs[j']? = some y → ownTok x = some k → ownTok y ≠ some k
 | [], _, _, _, _, h => by simp at h
 | c :: cs, o, h, j, x, hj => by
  simp only [cellsOk, Bool.and_eq_true] at h
  obtain ⟨⟨h1, h2⟩, h3⟩ := h
  cases j with
  | zero =>
   simp only [List.getElem?_cons_zero, Option.some.injEq] at hj
   subst hj
   refine ⟨?_, ?_⟩
   ·unfold cellOk at h1
    split at h1
    ·rename_i k sz off l hv
     right
     refine ⟨k, by unfold ownTok; rw [hv], ?_⟩
     simp only [Bool.or_eq_true, Option.isNone_iff_eq_none, decide_eq_true_eq] at h1
     exact h1
    ·left
     simp only [Bool.and_eq_true, beq_iff_eq, Bool.not_eq_true'] at h1
     exact ⟨h1.1.1, h1.1.2, h1.2⟩
   ·intro j' y k hlt hy hk hk'
    cases j' with
    | zero => omega
    | succ j' =>
     rw [List.getElem?_cons_succ] at hy
     rw [hk] at h3
     simp only [Bool.not_eq_true', List.contains_eq_mem, decide_eq_false_iff_not] at h3
     apply h3
     rw [zacx, List.mem_flatMap]
     exact ⟨y, List.mem_of_getElem? hy, by rw [zadk hk']; simp⟩
  | succ j =>
   rw [List.getElem?_cons_succ] at hj
   obtain ⟨g1, g2⟩ := zahu cs (o + 1) h2 j x hj
   refine ⟨?_, fun j' y k hlt hy => ?_⟩
   ·rcases g1 with g | ⟨k, g, g'⟩
    ·exact .inl g
    ·exact .inr ⟨k, g, by rw [show o + (j + 1) = o + 1 + j by omega]; exact g'⟩
   ·cases j' with
    | zero => omega
    | succ j' => rw [List.getElem?_cons_succ] at hy; exact g2 j' y k (by omega) hy
theorem zahj {i : Nat} : ∀ (cs : List Value) (o j : Nat), (settle i o cs)[j]? = (cs[j]?).map (retok (i, some (o + j)))
 | [], _, _ => by simp [settle]
 | c :: cs, o, 0 => by simp [settle]
 | c :: cs, o, j + 1 => by simp only [settle, List.getElem?_cons_succ]; rw [zahj cs (o + 1) j, show o + (j + 1) = o + 1 + j by omega]
theorem zae6 {i : Nat} : ∀ (cs : List Value) (o : Nat), (settle i o cs).length = cs.length
 | [], _ => rfl
 | c :: cs, o => by simp [settle, zae6 cs]
theorem zahh {k : Tok} {x : Value} (h : ownTok x = none) : retok k x = x := by
 unfold ownTok at h
 unfold retok
 split at h
 ·cases h
 ·rename_i hv
  first | rfl | (split <;> simp_all)
theorem zacq {x : Value} (h : toks x = []) : ownTok x = none := by
 cases hk : ownTok x with
 | none => rfl
 | some k => rw [zadk hk] at h; cases h
theorem zaeh {i : Nat} : ∀ (cs : List Value) (o : Nat), toksL cs = [] → settle i o cs = cs
 | [], _, _ => rfl
 | c :: cs, o, h => by
  simp only [toksL, List.append_eq_nil_iff] at h
  simp only [settle]
  rw [zahh (zacq h.1), zaeh cs _ h.2]
section
variable {R R1 : Rl} {S : VH} {P : Program}
def Rl.laid (R : Rl) (i off : Nat) (cs : List Value) (H1 : Hp) : Rl := { R with
 ρ := fun k => match k.2 with
  | none => if (cs.findIdx? (fun c => decide (ownTok c = some k))).isSome then none else R.ρ k
  | some o => if k.1 = i ∧ off ≤ o ∧ o < off + cs.length then ((cs[o - off]?).bind ownTok).bind R.ρ else R.ρ k
 H := H1 }
structure LayH (R : Rl) (b : Nat) (H1 : Hp) : Prop where
 nx : H1.next = R.H.next
 oth : ∀ b', b' ≠ b → H1.get b' = R.H.get b'
theorem zau9 {cs : List Value} {k : Tok} {j : Nat} (h : cs.findIdx? (fun c => decide (ownTok c = some k)) = some j) : (cs[j]?).bind ownTok = some k := by
 rw [List.findIdx?_eq_some_iff_getElem] at h
 obtain ⟨hj, h1, _⟩ := h
 rw [List.getElem?_eq_getElem hj]
 simpa using h1
theorem zau8 {cs : List Value} {k : Tok} (h : cs.findIdx? (fun c => decide (ownTok c = some k)) = none) (j : Nat) : (cs[j]?).bind ownTok ≠ some k := by
 rw [List.findIdx?_eq_none_iff] at h
 intro hh
 cases hx : cs[j]? with
 | none => rw [hx] at hh; cases hh
 | some x =>
  rw [hx] at hh
  have := h x (List.mem_of_getElem? hx)
  simp only [Option.bind_some] at hh
  simp [hh] at this
theorem zafe {i off : Nat} {cs : List Value} {H1 : Hp} {k : Tok} {b : Nat} (h : (R.laid i off cs H1).ρ k = some b) :
    (∃ j k', k = (i, some (off + j)) ∧ j < cs.length ∧ (cs[j]?).bind ownTok = some k' ∧ R.ρ k' = some b) ∨ (R.ρ k = some b ∧ (∀ j, (k.2 = none → (cs[j]?).bind ownTok ≠ some k) ∧ (j < cs.length → k ≠ (i, some (off + j))))) := by
 obtain ⟨k1, k2⟩ := k
 simp only [Rl.laid] at h
 cases k2 with
 | none =>
  simp only at h
  split at h
  ·cases h
  ·rename_i hf
   right
   refine ⟨h, fun j => ⟨fun _ => zau8 (by simpa using hf) j, fun _ hh => by simp at hh⟩⟩
 | some o =>
  simp only at h
  split at h
  ·rename_i hh
   left
   rw [Option.bind_eq_some_iff] at h
   obtain ⟨k', h1, h2⟩ := h
   exact ⟨o - off, k', by rw [hh.1, show off + (o - off) = o by omega], by omega, h1, h2⟩
  ·rename_i hh
   right
   refine ⟨h, fun j => ⟨fun hn => by simp at hn, fun hj he => ?_⟩⟩
   simp only [Prod.mk.injEq, Option.some.injEq] at he
   exact hh ⟨he.1, by omega, by omega⟩
theorem zasm (hr : HRel R S.all) {i b off : Nat} (hi : R.φ[i]? = some b) {o : Bool} {e : TypeId} {c c' : List Value} (hg : S.get i = .cells o e c) (hgc : R.H.get b = .cells true (bxT e) c') {cs us : List Value} (hcs : RdL R cs us) (hl : off + cs.length ≤ c.length)
    {n : Nat} {outer : Bool} (hok : cellsOk n outer i off cs = true) (hlow : i < S.base.length → n = S.base.length) {H1 : Hp} (hH : LayH R b H1) (hb1 : H1.get b = .cells true (bxT e) (setAll c' off us)) :
    Nxt R (R.laid i off cs H1) S (S.put i (.cells true e (setAll c off (settle i off cs)))) [i] false [fate (fput i off cs)] := by
 have hbl : b < R.H.next := hr.lt b (List.mem_of_getElem? hi)
 have hbm : b ∈ R.φ := List.mem_of_getElem? hi
 obtain ⟨_, c2, hg2, hcc, hrest⟩ := box_of hr hi hg
 rw [hgc] at hg2
 cases hg2
 have hget := zahu cs off hok
 have hρb : ∀ k b', R.ρ k = some b' → b' ≠ b := fun k b' h hh => (hr.sep k b' h).1 (hh ▸ hbm)
 have hρ1 : ∀ k b', (R.laid i off cs H1).ρ k = some b' → ∃ k', R.ρ k' = some b' := by
  intro k b' h
  rcases zafe h with ⟨j, k1, _, _, _, h2⟩ | ⟨h1, _⟩
  ·exact ⟨k1, h2⟩
  ·exact ⟨k, h1⟩
 have hst : Stays R (R.laid i off cs H1) := ⟨fun i b h => h, fun b' hb => ⟨⟨by show b' < H1.next; rw [hH.nx]; exact hb.1, hb.2.1, fun k hk => by
  obtain ⟨k', hk'⟩ := hρ1 k b' hk
  exact hb.2.2 k' hk'⟩, hH.oth b' fun h => hb.2.1 (h ▸ hbm)⟩, fun d b _ h => h⟩
 have hfate : FateOk R (R.laid i off cs H1) (fput i off cs) := by
  constructor
  ·intro k b' hk hf
   refine ⟨?_, hH.oth b' (hρb k b' hk)⟩
   obtain ⟨k1, k2⟩ := k
   cases k2 with
   | none =>
    simp only [fput] at hf
    simp only [Rl.laid]
    split at hf
    ·cases hf
    ·rename_i hn; rw [hn]; exact hk
   | some o' =>
    simp only [fput] at hf
    simp only [Rl.laid]
    split at hf
    ·rename_i hh
     rw [if_pos hh]
     split at hf
     ·rename_i h1; rw [h1]; exact hk
     ·cases hf
    ·rename_i hh; rw [if_neg hh]; exact hk
  ·intro k b' d hk hf
   obtain ⟨k1, k2⟩ := k
   cases k2 with
   | none =>
    simp only [fput] at hf
    split at hf <;> cases hf
   | some o' =>
    simp only [fput] at hf
    split at hf
    ·rename_i hh
     split at hf
     ·cases hf
     ·rename_i hne
      cases hf
      obtain ⟨rfl, ho1, ho2⟩ := hh
      refine ⟨⟨by show b' < H1.next; rw [hH.nx]; exact (hr.sep _ b' hk).2, (hr.sep _ b' hk).1, fun k'' hk'' => ?_⟩, hr.own _ b' hk, hH.oth b' (hρb _ b' hk)⟩
      rcases zafe hk'' with ⟨j, k', e1, hj, h1, h2⟩ | ⟨h1, h2⟩
      ·have := hr.inj _ _ b' hk h2
       subst this
       cases hx : cs[j]? with
       | none => rw [hx] at h1; cases h1
       | some x =>
        rw [hx] at h1
        simp only [Option.bind_some] at h1
        rcases (hget j x hx).1 with ⟨ht, _⟩ | ⟨k3, hk3, hk4⟩
        ·rw [zacq ht] at h1; cases h1
        ·rw [h1] at hk3
         cases hk3
         rcases hk4 with hk4 | hk4
         ·cases hk4
         ·simp only [Prod.mk.injEq, Option.some.injEq] at hk4
          apply hne
          rw [show o' - off = j by omega, hx]
          exact h1
      ·have := hr.inj _ _ b' hk h1
       subst this
       exact (h2 (o' - off)).2 (by omega) (by rw [show off + (o' - off) = o' by omega])
    ·cases hf
  ·intro k b' k' hk hf
   refine ⟨?_, hH.oth b' (hρb k b' hk)⟩
   obtain ⟨k1, k2⟩ := k
   cases k2 with
   | none =>
    simp only [fput] at hf
    split at hf
    ·rename_i j hj
     cases hf
     have hb := zau9 hj
     have hjl : j < cs.length := by
      rcases Nat.lt_or_ge j cs.length with h | h
      ·exact h
      ·rw [List.getElem?_eq_none h] at hb; cases hb
     simp only [Rl.laid]
     rw [if_pos ⟨trivial, by omega, by omega⟩, show off + j - off = j by omega, hb]
     exact hk
    ·cases hf
   | some o' =>
    simp only [fput] at hf
    split at hf
    ·split at hf <;> cases hf
    ·cases hf
 have hset : ∀ j x, cs[j]? = some x → retok (i, some (off + j)) x = mapOwn (fate (fput i off cs)) x := by
  intro j x hx
  obtain ⟨u, hu, hxu⟩ := hcs.get? hx
  have hjl : j < cs.length := (List.getElem?_eq_some_iff.1 hx).1
  rcases (hget j x hx).1 with ⟨ht, _⟩ | ⟨k, hk, hk2⟩
  ·rw [zahh (zacq ht), zaau (zabk _) x ht]
  ·rw [zaez (zaek hk)]
   obtain ⟨sz, of, l, hv⟩ := zab2 hk
   have hxe := hxu.is_own hv
   unfold retok
   rw [hv]
   simp only [fate]
   obtain ⟨k1, k2⟩ := k
   cases k2 with
   | none =>
    have : cs.findIdx? (fun c => decide (ownTok c = some (k1, none))) = some j := by
     rw [List.findIdx?_eq_some_iff_getElem]
     refine ⟨hjl, ?_, fun j' hj' => ?_⟩
     ·have := List.getElem?_eq_getElem hjl
      rw [this] at hx
      cases hx
      simpa using hk
     ·have hj'l : j' < cs.length := by omega
      have := (hget j' cs[j'] (List.getElem?_eq_getElem hj'l)).2 j x (k1, none) hj' hx
      simp only [decide_eq_true_eq]
      intro hh
      exact this hh hk
    simp only [fput, this]
   | some o' =>
    rcases hk2 with hk2 | hk2
    ·cases hk2
    ·cases hk2
     have : fput i off cs (i, some (off + j)) = .keep := by
      simp only [fput]
      rw [if_pos ⟨trivial, by omega, by omega⟩, show off + j - off = j by omega, hx]
      simp only [Option.bind_some, hk, if_true]
     simp only [this]
     exact hxe.symm
 have hsettle : RdL (R.laid i off cs H1) (settle i off cs) us := by
  refine .of_forall (by rw [zae6]; exact hcs.1) fun j v u hv hu => ?_
  rw [zahj, Option.map_eq_some_iff] at hv
  obtain ⟨x, hx, rfl⟩ := hv
  rw [hset j x hx]
  obtain ⟨u', hu', hxu⟩ := hcs.get? hx
  rw [hu] at hu'
  cases hu'
  exact Rd.fate hst hfate hxu
 have hslen : off + (settle i off cs).length ≤ c.length := by rw [zae6]; exact hl
 have hold : ∀ j x, c[j]? = some x → ¬ (off ≤ j ∧ j < off + cs.length) → mapOwn (fate (fput i off cs)) x = x := by
  intro j x hx hn
  rcases hrest j x hx with ht | ht
  ·exact zaau (zabk _) x ht
  ·rw [zaez (zaek ht)]
   obtain ⟨sz, of, l, hv⟩ := zab2 ht
   rw [hv]
   have : fput i off cs (i, some j) = .keep := by
    simp only [fput]
    rw [if_neg fun h => hn ⟨h.2.1, h.2.2⟩]
   simp only [fate, this]
 have hnew : RdL (R.laid i off cs H1) (setAll c off (settle i off cs)) (setAll c' off us) := by
  have h1 := (hcc.fate hst hfate).setAll hsettle off
  have : setAll (c.map (mapOwn (fate (fput i off cs)))) off (settle i off cs) = setAll c off (settle i off cs) := by
   apply List.ext_getElem?
   intro j
   rw [zab0 _ _ _ _ (by simpa using hslen), zab0 _ _ _ _ hslen]
   split
   ·rfl
   ·rename_i hn
    rw [List.getElem?_map]
    cases hx : c[j]? with
    | none => rfl
    | some x =>
     simp only [Option.map_some]
     rw [hold j x hx (by rw [zae6] at hn; exact hn)]
  rwa [this] at h1
 have hto : ∀ (i' o' : Nat) (k' : Tok), fput i off cs (i', some o') ≠ .to k' := by
  intro i' o' k' h
  simp only [fput] at h
  split at h
  ·split at h <;> cases h
  ·cases h
 have hmem : ∀ j, j ∈ (S.put i (.cells true e (setAll c off (settle i off cs)))).w ↔ j ∈ S.w ∨ (j = i ∧ i < S.base.length) := fun j => VH.mem_w_put
 refine { hr := ?_, pre := fun i b h => h, M := rfl, nx := by show R.H.next ≤ H1.next; rw [hH.nx]; omega, eff := ?_, bl := VH.base_put _ _ _, w1 := fun j hj => (hmem j).2 (.inl hj), w2 := fun j hj hjl => ?_, w3 := fun j hj => ?_, keep := ?_, tok := ?_, box := fun i b h => .inl h, rd := fun v u h => Rd.fate hst hfate h, low := ?_, same := fun j hj hw => (by rw [VH.all_put, List.getElem?_set_ne]; rintro rfl; exact hw ((hmem _).2 (.inr ⟨rfl, hj⟩))) }
 ·refine { len := by rw [VH.all_put, List.length_set]; exact hr.len, nodup := hr.nodup, lt := fun b' hb => by show b' < H1.next; rw [hH.nx]; exact hr.lt b' hb, inj := ?_, sep := ?_, fr := fun b' hb => hr.fr b' (by have : H1.next ≤ b' := hb; rw [hH.nx] at this; exact this), dom := ?_, own := ?_, blk := ?_ }
  ·intro k1 k2 b' h1 h2
   rcases zafe h1 with ⟨j1, k1', e1, hj1, t1, r1⟩ | ⟨r1, n1⟩
   ·rcases zafe h2 with ⟨j2, k2', e2, hj2, t2, r2⟩ | ⟨r2, n2⟩
    ·have := hr.inj _ _ b' r1 r2
     subst this
     have : j1 = j2 := by
      have f1 : (cs[j1]?) = some cs[j1] := List.getElem?_eq_getElem hj1
      have f2 : (cs[j2]?) = some cs[j2] := List.getElem?_eq_getElem hj2
      rw [f1] at t1
      rw [f2] at t2
      simp only [Option.bind_some] at t1 t2
      rcases Nat.lt_trichotomy j1 j2 with h | h | h
      ·exact absurd t2 ((hget j1 _ f1).2 j2 _ _ h f2 t1)
      ·exact h
      ·exact absurd t1 ((hget j2 _ f2).2 j1 _ _ h f1 t2)
     rw [e1, e2, this]
    ·exfalso
     have := hr.inj _ _ b' r1 r2
     subst this
     have f1 : (cs[j1]?) = some cs[j1] := List.getElem?_eq_getElem hj1
     have t1' := t1
     rw [f1] at t1
     simp only [Option.bind_some] at t1
     rcases (hget j1 _ f1).1 with ⟨ht, _⟩ | ⟨k3, hk3, hk4⟩
     ·rw [zacq ht] at t1; cases t1
     ·rw [t1] at hk3
      cases hk3
      rcases hk4 with hk4 | hk4
      ·exact (n2 j1).1 hk4 t1'
      ·exact (n2 j1).2 hj1 hk4
   ·rcases zafe h2 with ⟨j2, k2', e2, hj2, t2, r2⟩ | ⟨r2, n2⟩
    ·exfalso
     have := hr.inj _ _ b' r2 r1
     subst this
     have f2 : (cs[j2]?) = some cs[j2] := List.getElem?_eq_getElem hj2
     have t2' := t2
     rw [f2] at t2
     simp only [Option.bind_some] at t2
     rcases (hget j2 _ f2).1 with ⟨ht, _⟩ | ⟨k3, hk3, hk4⟩
     ·rw [zacq ht] at t2; cases t2
     ·rw [t2] at hk3
      cases hk3
      rcases hk4 with hk4 | hk4
      ·exact (n1 j2).1 hk4 t2'
      ·exact (n1 j2).2 hj2 hk4
    ·exact hr.inj _ _ b' r1 r2
  ·intro k b' h
   obtain ⟨k', hk'⟩ := hρ1 k b' h
   have := hr.sep k' b' hk'
   exact ⟨this.1, by show b' < H1.next; rw [hH.nx]; exact this.2⟩
  ·intro i' o' b' h
   rcases zafe h with ⟨j, k1, e1, hj, _, _⟩ | ⟨h1, _⟩
   ·cases e1
    exact (List.getElem?_eq_some_iff.1 hi).1
   ·exact hr.dom i' o' b' h1
  ·intro k b' h
   obtain ⟨k', hk'⟩ := hρ1 k b' h
   exact hr.own k' b' hk'
  ·intro i' b' hb
   rw [VH.all_put, List.getD_eq_getElem?_getD, List.getElem?_set]
   by_cases hii : i = i'
   ·subst hii
    have hb' : R.φ[i]? = some b' := hb
    rw [hi] at hb'
    cases hb'
    have hil : i < S.all.length := by rw [← hr.len]; exact (List.getElem?_eq_some_iff.1 hi).1
    rw [if_pos rfl, if_pos hil]
    simp only [Option.getD_some]
    show BR _ i _ (H1.get b)
    rw [hb1]
    refine ⟨rfl, _, rfl, hnew, fun j x hx => ?_⟩
    rw [zab0 _ _ _ _ hslen] at hx
    split at hx
    ·rename_i hj
     rw [zahj, Option.map_eq_some_iff] at hx
     obtain ⟨y, hy, rfl⟩ := hx
     rcases (hget _ y hy).1 with ⟨ht, _⟩ | ⟨k, hk, hk2⟩
     ·left; rw [zahh (zacq ht)]; exact ht
     ·right
      obtain ⟨sz, of, l, hv⟩ := zab2 hk
      unfold retok
      rw [hv]
      simp only [ownTok, zabs]
      rw [show off + (j - off) = j by omega]
    ·exact hrest j x hx
   ·rw [if_neg hii, ← List.getD_eq_getElem?_getD]
    have hne : b' ≠ b := by
     rintro rfl
     have h1 := (List.getElem?_eq_some_iff.1 hi)
     have h2 := (List.getElem?_eq_some_iff.1 (show R.φ[i']? = some b' from hb))
     obtain ⟨l1, e1⟩ := h1
     obtain ⟨l2, e2⟩ := h2
     exact hii ((List.getElem_inj (h₀ := l1) (h₁ := l2) hr.nodup).1 (e1.trans e2.symm))
    show BR _ i' _ (H1.get b')
    rw [hH.oth b' hne]
    have hk : ∀ o', fput i off cs (i', some o') = .keep := by
     intro o'
     simp only [fput]
     rw [if_neg fun h => hii h.1.symm]
    have := map_br hst hfate (hto i') (hr.blk i' b' hb)
    rw [zamg hk (hr.blk i' b' hb)] at this
    exact this
 ·intro b' hb hw _
  refine hH.oth b' ?_
  rintro rfl
  exact (hw i (by simp)).1 hi
 ·simp only [List.mem_singleton] at hj
  subst hj
  exact (hmem j).2 (.inr ⟨rfl, hjl⟩)
 ·rcases (hmem j).1 hj with h | h
  ·exact .inl h
  ·exact .inr (h.1 ▸ h.2)
 ·intro i' hi' hw o'
  simp only [Rl.laid]
  rw [if_neg]
  rintro ⟨rfl, _⟩
  exact hw ((hmem i').2 (.inr ⟨rfl, hi'⟩))
 ·intro k b' h
  rcases zafe h with ⟨j, k', e1, hj, t1, r1⟩ | ⟨r1, _⟩
  ·have f1 : (cs[j]?) = some cs[j] := List.getElem?_eq_getElem hj
   rw [f1] at t1
   simp only [Option.bind_some] at t1
   rcases (hget j _ f1).1 with ⟨ht, _⟩ | ⟨k3, hk3, hk4⟩
   ·rw [zacq ht] at t1; cases t1
   ·rw [t1] at hk3
    cases hk3
    rcases hk4 with hk4 | hk4
    ·obtain ⟨a, q⟩ := k'
     cases hk4
     exact .inr (.inl ⟨a, r1⟩)
    ·left; rw [e1, ← hk4]; exact r1
  ·exact .inl r1
 ·intro hlw i' hi' x hx
  rw [VH.all_put, List.getD_eq_getElem?_getD, List.getElem?_set] at hx
  by_cases hii : i = i'
  ·subst hii
   rw [if_pos rfl] at hx
   split at hx
   ·simp only [Option.getD_some, cellsIn] at hx
    obtain ⟨j, hj⟩ := List.getElem?_of_mem hx
    rw [zab0 _ _ _ _ hslen] at hj
    split at hj
    ·rw [zahj, Option.map_eq_some_iff] at hj
     obtain ⟨y, hy, rfl⟩ := hj
     rcases (hget _ y hy).1 with ⟨ht, _, hok'⟩ | ⟨k, hk, _⟩
     ·rw [zahh (zacq ht)]
      rw [hlow hi'] at hok'
      exact zaix y hok'
     ·obtain ⟨sz, of, l, hv⟩ := zab2 hk
      unfold retok
      rw [hv]
      rfl
    ·have := hlw i hi' x
     rw [← VH.get_eq, hg] at this
     exact this (List.mem_of_getElem? hj)
   ·cases hx
  ·rw [if_neg hii, ← List.getD_eq_getElem?_getD] at hx
   exact hlw i' hi' x hx
end
end Go.Proofs.YtliemjbafgnnbaaDoor.Abs
