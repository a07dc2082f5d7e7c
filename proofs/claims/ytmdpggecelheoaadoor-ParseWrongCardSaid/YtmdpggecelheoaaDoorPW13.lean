/- Any heavy operation over values with their slices. -/
import Derived.Test.YtmdpggecelheoaaDoorPW12
set_option linter.unusedVariables false
set_option linter.unusedSimpArgs false
namespace Go.Proofs.YtmdpggecelheoaaDoor.Abs
open Go

section
variable {R R1 : Rl} {S : VH} {P : Program}
theorem low_upd (k : Tok) (j : Nat) (x : Value) : Low (upd k j x) := by
  intro n v hv
  unfold upd
  split
  · split
    · split <;> rfl
    · exact lowv_tok hv
  · split
    · rfl
    · exact lowv_tok hv
  · split
    · rfl
    · exact lowv_tok hv
  · exact lowv_tok hv
theorem okvL_set {l : List Value} (h : okvL 0 true l = true) (i : Nat) {x : Value} (hx : okv 0 true x = true) : okvL 0 true (l.set i x) = true := by
  rw [okvL_eq, List.all_eq_true] at h ⊢
  intro y hy
  rcases List.mem_or_eq_of_mem_set hy with hy | rfl
  · exact h y hy
  · exact hx
/-- A window of cells of which some are written. -/
theorem window_set {sz : Nat} (h0 : 0 < sz) {off j : Nat} {l : List Value} {c us : List Value} {x : Value} (hsz : ∀ y ∈ l, y.cells.size = sz) (hx : x.cells.size = sz) (hu : RdL R1 x.cells.toList us) (hl : off * sz + l.length * sz ≤ c.length) (hj : j * sz + sz ≤ c.length)
    (hc : RdL R1 (cellsL l) ((c.drop (off * sz)).take (l.length * sz))) :
    RdL R1 (cellsL (if off ≤ j then l.set (j - off) x else l)) (((setAll c (j * sz) us).drop (off * sz)).take ((if off ≤ j then l.set (j - off) x else l).length * sz)) := by
  have hul : us.length = sz := by rw [← hu.1, Array.length_toList]; exact hx
  have hle : (if off ≤ j then l.set (j - off) x else l).length = l.length := by split <;> simp
  rw [hle]
  by_cases hin : off ≤ j ∧ j < off + l.length
  · rw [if_pos hin.1, cellsL_set hsz (by omega) hx]
    have h1 := hc.setAll hu ((j - off) * sz)
    have e : ((setAll c (j * sz) us).drop (off * sz)).take (l.length * sz) = setAll ((c.drop (off * sz)).take (l.length * sz)) ((j - off) * sz) us := by
      have hm : (j - off) * sz + sz ≤ l.length * sz := by
        have := Nat.mul_le_mul_right sz (show j - off + 1 ≤ l.length by omega)
        rwa [Nat.add_mul, Nat.one_mul] at this
      have hjo : j * sz = off * sz + (j - off) * sz := by rw [← Nat.add_mul]; congr 1; omega
      apply List.ext_getElem?
      intro i
      rw [setAll_get _ _ _ _ (by rw [List.length_take, List.length_drop, hul]; omega), List.getElem?_take, List.getElem?_drop, setAll_get _ _ _ _ (by rw [hul]; exact hj), hul]
      by_cases hi : i < l.length * sz
      · rw [if_pos hi]
        by_cases hb : (j - off) * sz ≤ i ∧ i < (j - off) * sz + sz
        · rw [if_pos hb, if_pos (by omega)]
          congr 1
          omega
        · rw [if_neg hb, if_neg (by omega), List.getElem?_take, if_pos hi, List.getElem?_drop]
      · rw [if_neg hi, if_neg (by omega), List.getElem?_take, if_neg hi]
    rw [e]
    exact h1
  · have e : ((setAll c (j * sz) us).drop (off * sz)).take (l.length * sz) = (c.drop (off * sz)).take (l.length * sz) := by
      apply List.ext_getElem?
      intro i
      rw [List.getElem?_take, List.getElem?_take, List.getElem?_drop, List.getElem?_drop, setAll_get _ _ _ _ (by rw [hul]; exact hj), hul]
      by_cases hi : i < l.length * sz
      · rw [if_pos hi, if_pos hi, if_neg]
        rintro ⟨h1, h2⟩
        by_cases h : off ≤ j
        · have : off + l.length ≤ j := by omega
          have := Nat.mul_le_mul_right sz this
          rw [Nat.add_mul] at this
          omega
        · have : j + 1 ≤ off := by omega
          have := Nat.mul_le_mul_right sz this
          rw [Nat.add_mul, Nat.one_mul] at this
          omega
      · rw [if_neg hi, if_neg hi]
    rw [e]
    have e2 : (if off ≤ j then l.set (j - off) x else l) = l := by
      split
      · rw [List.set_eq_of_length_le]; omega
      · rfl
    rw [e2]
    exact hc
theorem upd_step (hr : HRel R S.all) {k : Tok} {b j sz : Nat} {el : TypeId} {c us : List Value} {x : Value} (h0 : 0 < sz) (hk : R.ρ k = some b) (hg : R.H.get b = .cells true el c) (hx : x.cells.size = sz) (hok : okv 0 true x = true) (hu : RdL R x.cells.toList us) (hj : j * sz + sz ≤ c.length) :
    Nxt R { R with H := R.H.put b (.cells true el (setAll c (j * sz) us)) } S (S.turn (upd k j x) (ownBox k)) (ownBox k) k.2.isNone [upd k j x] := by
  have hoth : ∀ b', b' ≠ b → (R.H.put b (.cells true el (setAll c (j * sz) us))).get b' = R.H.get b' := fun b' h => by rw [get_put, if_neg h]
  have hst : Stays R { R with H := R.H.put b (.cells true el (setAll c (j * sz) us)) } := ⟨fun i b h => h, fun b' hb => ⟨⟨by show b' < (R.H.put _ _).next; rw [next_put]; exact hb.1, hb.2.1, hb.2.2⟩, hoth b' fun h => hb.2.2 k (h ▸ hk)⟩, fun d b _ h => h⟩
  have hus : RdL { R with H := R.H.put b (.cells true el (setAll c (j * sz) us)) } x.cells.toList us := ⟨hu.1, fun i => Rd.free hst (hu.2 i) (toks_getD (free_cells hok) i)⟩
  have hown : ∀ v u, isTok v = true → Rd R v u → Rd { R with H := R.H.put b (.cells true el (setAll c (j * sz) us)) } (upd k j x (view v) v) u := by
    intro v u hv h
    cases h with
    | own k' sz' off l b' el' c' h1 h2 h3 h4 h5 h6 h7 =>
      have h7' := fun i => Rd.free hst (h7 i) (toks_getD (free_cellsL h6) i)
      rw [view_vo]
      simp only [upd]
      by_cases hkk : k' = k
      · rw [if_pos hkk]
        subst hkk
        rw [hk] at h2
        cases h2
        rw [hg] at h3
        cases h3
        by_cases hss : sz' = x.cells.size
        · rw [if_pos hss]
          have hss' : sz' = sz := by rw [hss, hx]
          subst hss'
          have hle : (if off ≤ j then l.set (j - off) x else l).length = l.length := by split <;> simp
          have hw := window_set (R1 := { R with H := R.H.put b (.cells true el (setAll c (j * sz') us)) }) h1 h5 hx hus h4 hj ⟨by rw [cellsL_len h5, List.length_take, List.length_drop]; omega, h7'⟩
          have := Rd.own (R := { R with H := R.H.put b (.cells true el (setAll c (j * sz') us)) }) k' sz' off (if off ≤ j then l.set (j - off) x else l) b el (setAll c (j * sz') us) h1 hk (by show (R.H.put _ _).get b = _; rw [get_put, if_pos rfl]) (by rw [hle, setAll_len]; exact h4) (by
            intro y hy
            split at hy
            · rcases List.mem_or_eq_of_mem_set hy with hy | rfl
              · exact h5 y hy
              · exact hx
            · exact h5 y hy) (by split; exact okvL_set h6 _ hok; exact h6) hw.2
          rw [hle] at this
          exact this
        · rw [if_neg hss]; exact .stale 1 _ (by decide)
      · rw [if_neg hkk]
        have hne : b' ≠ b := fun h => hkk (hr.inj k' k b (h ▸ h2) hk)
        exact .own k' sz' off l b' el' c' h1 h2 (by show (R.H.put _ _).get b' = _; rw [hoth b' hne]; exact h3) h4 h5 h6 h7'
    | atOwn k' sz' off y b' el' c' h1 h2 h3 h4 h5 h6 h7 =>
      have h7' := fun i => Rd.free hst (h7 i) (toks_getD (free_cells h6) i)
      rw [view_vq]
      simp only [upd]
      by_cases hkk : k' = k
      · rw [if_pos hkk]; exact .stale 1 _ (by decide)
      · rw [if_neg hkk]
        have hne : b' ≠ b := fun h => hkk (hr.inj k' k b (h ▸ h2) hk)
        exact .atOwn k' sz' off y b' el' c' h1 h2 (by show (R.H.put _ _).get b' = _; rw [hoth b' hne]; exact h3) h4 h5 h6 h7'
    | inOwn k' y b' off el' c' h2 h3 h4 h5 h6 =>
      have h6' := fun i => Rd.free hst (h6 i) (toks_getD (free_cells h5) i)
      rw [view_vr]
      simp only [upd]
      by_cases hkk : k' = k
      · rw [if_pos hkk]; exact .stale 1 _ (by decide)
      · rw [if_neg hkk]
        have hne : b' ≠ b := fun h => hkk (hr.inj k' k b (h ▸ h2) hk)
        exact .inOwn k' y b' off el' c' h2 (by show (R.H.put _ _).get b' = _; rw [hoth b' hne]; exact h3) h4 h5 h6'
    | scal v h => rw [isTok_scal h] at hv; cases hv
    | _ => exact absurd (show false = true from hv) (by decide)
  obtain ⟨t1, t2, t3, t4⟩ := VH.turn_all (upd k j x) (ownBox k) S fun _ _ _ => trivial
  have hob : ∀ i o, k = (i, some o) → i ∈ ownBox k := by rintro i o rfl; simp [ownBox]
  have hgb : ∀ (i b' : Nat), R.φ[i]? = some b' → (R.H.put b (.cells true el (setAll c (j * sz) us))).get b' = R.H.get b' := fun i b' hb => by
    have hm := List.mem_of_getElem? hb
    exact hoth b' (fun h => (hr.sep k b hk).1 (h ▸ hm))
  -- boxes: turned, or turned again
  have hmap : ∀ (i : Nat) (B B' : Blk), BR R i B B' → BR { R with H := R.H.put b (.cells true el (setAll c (j * sz) us)) } i (mapB (mapOwn (upd k j x)) B) B' := by
    intro i B B' h
    cases B with
    | cells o e c2 =>
      obtain ⟨h1, c', h2, h3, h4⟩ := h
      refine ⟨h1, c', h2, ⟨by simpa using h3.1, fun q => by rw [getD_map_own]; exact Rd.turn (nice_upd k j x) hst hown (h3.2 q)⟩, fun q y hy => ?_⟩
      rw [List.getElem?_map, Option.map_eq_some_iff] at hy
      obtain ⟨z, hz, rfl⟩ := hy
      rcases h4 q z hz with h5 | h5
      · left; rw [mapOwn_free (nice_upd k j x) z h5]; exact h5
      · rw [mapOwn_tok (ownTok_tok h5)]
        obtain ⟨sz', off, l, hv⟩ := ownTok_view h5
        rw [hv]
        simp only [upd]
        split
        · rename_i hkk
          split
          · right; rw [← hkk]; simp only [ownTok, view_vo]
          · left; rfl
        · right; exact h5
    | _ => trivial
  have hone : ∀ (i b' : Nat), R.φ[i]? = some b' → BR { R with H := R.H.put b (.cells true el (setAll c (j * sz) us)) } i ((S.turn (upd k j x) (ownBox k)).all.getD i .dead) (R.H.get b') := by
    intro i b' hb
    by_cases hib : i ∈ ownBox k
    · have hki : ownBox k = [i] := by
        obtain ⟨k1, k2⟩ := k
        cases k2 with
        | none => simp [ownBox] at hib
        | some o => simp [ownBox] at hib ⊢; exact hib.symm
      rw [hki]
      simp only [VH.turn]
      have hil : i < S.all.length := by rw [← hr.len]; exact (List.getElem?_eq_some_iff.1 hb).1
      rw [VH.all_put, List.getD_eq_getElem?_getD, List.getElem?_set, if_pos rfl, if_pos hil, VH.get_eq]
      exact hmap i _ _ (hr.blk i b' hb)
    · rw [t3 i hib]
      have hB := hr.blk i b' hb
      have := hmap i _ _ hB
      have hsame : mapB (mapOwn (upd k j x)) (S.all.getD i .dead) = S.all.getD i .dead := by
        generalize S.all.getD i .dead = B at hB
        cases B with
        | cells o e c2 =>
          obtain ⟨h1, c', h2, h3, h4⟩ := hB
          simp only [mapB]
          congr 1
          apply List.ext_getElem?
          intro q
          rw [List.getElem?_map]
          cases hq : c2[q]? with
          | none => rfl
          | some y =>
            simp only [Option.map_some]
            congr 1
            rcases h4 q y hq with h5 | h5
            · exact mapOwn_free (nice_upd k j x) y h5
            · rw [mapOwn_tok (ownTok_tok h5)]
              obtain ⟨sz', off, l, hv⟩ := ownTok_view h5
              rw [hv]
              simp only [upd]
              rw [if_neg]
              intro h
              exact hib (hob i q h.symm)
        | _ => rfl
      rw [hsame] at this
      exact this
  refine { hr := ?_, pre := fun i b h => h, M := rfl, nx := by show R.H.next ≤ (R.H.put _ _).next; rw [next_put]; omega, eff := ?_, bl := t2, w1 := fun i hi => (t4 i).2 (.inl hi), w2 := fun i hi hl => (t4 i).2 (.inr ⟨hi, hl⟩), w3 := fun i hi => ?_, keep := fun _ _ _ _ => rfl, tok := fun k b h => .inl h, box := fun i b h => .inl h, rd := fun v u h => Rd.turn (nice_upd k j x) hst hown h, low := low_turn (nice_upd k j x) (low_upd k j x) _ S, same := same_turn _ _ S }
  · exact { len := by rw [t1]; exact hr.len, nodup := hr.nodup, lt := fun b' hb => by show b' < (R.H.put _ _).next; rw [next_put]; exact hr.lt b' hb, inj := hr.inj, sep := fun k b' h => ⟨(hr.sep k b' h).1, by show b' < (R.H.put _ _).next; rw [next_put]; exact (hr.sep k b' h).2⟩, fr := fun b' hb => hr.fr b' (by have : (R.H.put b (.cells true el (setAll c (j * sz) us))).next ≤ b' := hb; rwa [next_put] at this), dom := hr.dom, own := hr.own, blk := fun i b' hb => by show BR _ i _ ((R.H.put _ _).get b'); rw [hgb i b' hb]; exact hone i b' hb }
  · intro b' hb hw hkf
    refine hoth b' ?_
    rintro rfl
    obtain ⟨k1, k2⟩ := k
    cases k2 with
    | none => exact hkf rfl k1 hk
    | some o => exact (hw k1 (by simp [ownBox])).2 o hk
  · rcases (t4 i).1 hi with h | h
    · exact .inl h
    · exact .inr h.2
end
end Go.Proofs.YtmdpggecelheoaaDoor.Abs
