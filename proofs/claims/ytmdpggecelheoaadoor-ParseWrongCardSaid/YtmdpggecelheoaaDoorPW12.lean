/- Heavy operations over values with their slices: the plain heap answers alike. -/
import Derived.Test.YtmdpggecelheoaaDoorPW11
set_option linter.unusedVariables false
set_option linter.unusedSimpArgs false
namespace Go.Proofs.YtmdpggecelheoaaDoor.Abs
open Go

section
variable {R R1 : Rl} {S : VH} {P : Program}
theorem Nxt.weaken {S1 : VH} {ws ws2 : List Nat} {kf kf2 : Bool} {g : List Turn} (h : Nxt R R1 S S1 ws kf g) (he : Eff R ws2 kf2 R1.H) (hw : ∀ i ∈ ws2, i < S.base.length → i ∈ S1.w) : Nxt R R1 S S1 ws2 kf2 g :=
  { h with eff := he, w2 := hw }
/-- Cells without own slices come to lie in a box. -/
theorem lay_plain (hr : HRel R S.all) {i b off : Nat} (hi : R.φ[i]? = some b) {o : Bool} {e : TypeId} {c c' : List Value} (hg : S.get i = .cells o e c) (hgc : R.H.get b = .cells true (bxT e) c') {cs us : List Value} (hcs : RdL R cs us) (hl : off + cs.length ≤ c.length)
    (hfree : toksL cs = []) (hlow : i < S.base.length → ∀ x ∈ cs, lowv S.base.length x = true) {H1 : Hp} (hH : LayH R b H1) (hb1 : H1.get b = .cells true (bxT e) (setAll c' off us)) :
    Nxt R { R with H := H1 } S (S.put i (.cells true e (setAll c off cs))) [i] false [] := by
  have hbm : b ∈ R.φ := List.mem_of_getElem? hi
  obtain ⟨_, c2, hg2, hcc, hrest⟩ := box_of hr hi hg
  rw [hgc] at hg2
  cases hg2
  have hρb : ∀ k b', R.ρ k = some b' → b' ≠ b := fun k b' h hh => (hr.sep k b' h).1 (hh ▸ hbm)
  have hst : Stays R { R with H := H1 } := ⟨fun i b h => h, fun b' hb => ⟨⟨by show b' < H1.next; rw [hH.nx]; exact hb.1, hb.2.1, hb.2.2⟩, hH.oth b' fun h => hb.2.1 (h ▸ hbm)⟩, fun d b _ h => h⟩
  have hf : FateOk R { R with H := H1 } fun _ => .keep := keep_fate hr fun k b' h => ⟨h, hH.oth b' (hρb k b' h)⟩
  have hmem : ∀ j, j ∈ (S.put i (.cells true e (setAll c off cs))).w ↔ j ∈ S.w ∨ (j = i ∧ i < S.base.length) := fun j => VH.mem_w_put
  have hfl : ∀ x ∈ cs, toks x = [] := by rw [toksL_eq, List.flatMap_eq_nil_iff] at hfree; exact hfree
  refine { hr := ?_, pre := fun i b h => h, M := rfl, nx := by show R.H.next ≤ H1.next; rw [hH.nx]; omega, eff := ?_, bl := VH.base_put _ _ _, w1 := fun j hj => (hmem j).2 (.inl hj), w2 := fun j hj hjl => ?_, w3 := fun j hj => ?_, keep := fun _ _ _ _ => rfl, tok := fun k b h => .inl h, box := fun i b h => .inl h, rd := fun v u h => Rd.same hst hf h, low := ?_, same := fun j hj hw => (by rw [VH.all_put, List.getElem?_set_ne]; rintro rfl; exact hw ((hmem _).2 (.inr ⟨rfl, hj⟩))) }
  · refine { len := by rw [VH.all_put, List.length_set]; exact hr.len, nodup := hr.nodup, lt := fun b' hb => by show b' < H1.next; rw [hH.nx]; exact hr.lt b' hb, inj := hr.inj, sep := fun k b' h => ⟨(hr.sep k b' h).1, by show b' < H1.next; rw [hH.nx]; exact (hr.sep k b' h).2⟩, fr := fun b' hb => hr.fr b' (by have : H1.next ≤ b' := hb; rw [hH.nx] at this; exact this), dom := hr.dom, own := hr.own, blk := ?_ }
    intro i' b' hb
    rw [VH.all_put, List.getD_eq_getElem?_getD, List.getElem?_set]
    by_cases hii : i = i'
    · subst hii
      have hb' : R.φ[i]? = some b' := hb
      rw [hi] at hb'
      cases hb'
      have hil : i < S.all.length := by rw [← hr.len]; exact (List.getElem?_eq_some_iff.1 hi).1
      rw [if_pos rfl, if_pos hil]
      simp only [Option.getD_some]
      show BR _ i _ (H1.get b)
      rw [hb1]
      refine ⟨rfl, _, rfl, (hcc.same hst hf).setAll (hcs.same hst hf) off, fun j x hx => ?_⟩
      rw [setAll_get _ _ _ _ hl] at hx
      split at hx
      · left; exact hfl x (List.mem_of_getElem? hx)
      · exact hrest j x hx
    · rw [if_neg hii, ← List.getD_eq_getElem?_getD]
      have hne : b' ≠ b := by
        rintro rfl
        obtain ⟨l1, e1⟩ := List.getElem?_eq_some_iff.1 hi
        obtain ⟨l2, e2⟩ := List.getElem?_eq_some_iff.1 (show R.φ[i']? = some b' from hb)
        exact hii ((List.getElem_inj (h₀ := l1) (h₁ := l2) hr.nodup).1 (e1.trans e2.symm))
      show BR _ i' _ (H1.get b')
      rw [hH.oth b' hne]
      exact (hr.blk i' b' hb).same hst hf
  · intro b' hb hw _
    refine hH.oth b' ?_
    rintro rfl
    exact (hw i (by simp)).1 hi
  · simp only [List.mem_singleton] at hj
    subst hj
    exact (hmem j).2 (.inr ⟨rfl, hjl⟩)
  · rcases (hmem j).1 hj with h | h
    · exact .inl h
    · exact .inr (h.1 ▸ h.2)
  · intro hlw i' hi' x hx
    rw [VH.all_put, List.getD_eq_getElem?_getD, List.getElem?_set] at hx
    by_cases hii : i = i'
    · subst hii
      rw [if_pos rfl] at hx
      split at hx
      · simp only [Option.getD_some, cellsIn] at hx
        obtain ⟨j, hj⟩ := List.getElem?_of_mem hx
        rw [setAll_get _ _ _ _ hl] at hj
        split at hj
        · exact hlow hi' x (List.mem_of_getElem? hj)
        · have := hlw i hi' x
          rw [← VH.get_eq, hg] at this
          exact this (List.mem_of_getElem? hj)
      · cases hx
    · rw [if_neg hii, ← List.getD_eq_getElem?_getD] at hx
      exact hlw i' hi' x hx
theorem turn_cells {g : Turn} {i : Nat} {o : Bool} {e : TypeId} : ∀ (bs : List Nat) (S : VH) (c : List Value), S.get i = .cells o e c → ∃ c1, (S.turn g bs).get i = .cells o e c1 ∧ c1.length = c.length := by
  intro bs
  induction bs with
  | nil => intro S c h; exact ⟨c, h, rfl⟩
  | cons j bs ih =>
    intro S c h
    simp only [VH.turn]
    by_cases hij : j = i
    · subst hij
      have hjl : j < S.all.length := by
        rcases Nat.lt_or_ge j S.all.length with h1 | h1
        · exact h1
        · rw [VH.get_eq, List.getD_eq_getElem?_getD, List.getElem?_eq_none h1] at h; cases h
      obtain ⟨c1, h1, h2⟩ := ih (S.put j (mapB (mapOwn g) (S.get j))) (c.map (mapOwn g)) (by
        rw [VH.get_eq, VH.all_put, List.getD_eq_getElem?_getD, List.getElem?_set, if_pos rfl, if_pos hjl, h]; rfl)
      exact ⟨c1, h1, by simpa using h2⟩
    · exact ih _ c (by
        rw [VH.get_eq, VH.all_put, List.getD_eq_getElem?_getD, List.getElem?_set_ne hij, ← List.getD_eq_getElem?_getD, ← VH.get_eq]; exact h)
theorem foreign_mem {i : Nat} {k : Tok} : ∀ (cs : List Value) (o : Nat), k ∈ foreign i o cs → ∃ x ∈ cs, ownTok x = some k
  | [], _, h => by cases h
  | c :: cs, o, h => by
    simp only [foreign, List.mem_append] at h
    rcases h with h | h
    · split at h
      · rename_i k' hk
        split at h
        · cases h
        · simp only [List.mem_singleton] at h
          subst h
          exact ⟨c, by simp, hk⟩
      · cases h
    · obtain ⟨x, hx, hk⟩ := foreign_mem cs (o + 1) h
      exact ⟨x, by simp [hx], hk⟩
/-- Cells come to lie in a box that there is. -/
theorem lay_ok (hr : HRel R S.all) {i b off : Nat} (hi : R.φ[i]? = some b) {o : Bool} {e : TypeId} {c c' : List Value} (hg : S.get i = .cells o e c) (hgc : R.H.get b = .cells true (bxT e) c') {cs us : List Value} (hcs : RdL R cs us) (hl : off + cs.length ≤ c.length)
    {r : VRes} (h : vlay i off cs S e = some r) {H1 : Hp} (hH : LayH R b H1) (hb1 : H1.get b = .cells true (bxT e) (setAll c' off us)) : ∃ R1 : Rl, R1.H = H1 ∧ Nxt R R1 S r.S r.ws r.kf r.g ∧ r.ws = [i] ∧ r.kf = false ∧ r.v = undef := by
  have core : ∀ {R : Rl} {S : VH} {c : List Value} {cs : List Value} {o : Bool}, HRel R S.all → R.φ[i]? = some b → S.get i = .cells o e c → R.H.get b = .cells true (bxT e) c' → RdL R cs us → off + cs.length ≤ c.length → LayH R b H1 →
      cellsOk (if i < S.base.length then S.base.length else S.next) (decide (i < S.base.length)) i off cs = true →
      ∃ R1 : Rl, R1.H = H1 ∧ Nxt R R1 S (vput i off cs S e).S [i] false (vput i off cs S e).g := by
    intro R S c cs o hr hi hg hgc hcs hl hH hok
    have hlow : ∀ n, (i < S.base.length → (if i < S.base.length then S.base.length else n) = S.base.length) := fun n hh => by rw [if_pos hh]
    simp only [vput, hg, cellsIn]
    by_cases hfr : toksL cs = []
    · rw [if_pos hfr, settle_free cs off hfr]
      refine ⟨{ R with H := H1 }, rfl, lay_plain hr hi hg hgc hcs hl hfr (fun hib x hx => ?_) hH hb1⟩
      obtain ⟨j, hj⟩ := List.getElem?_of_mem hx
      rcases (cellsOk_get cs off hok j x hj).1 with ⟨_, _, h3⟩ | ⟨k, hk, _⟩
      · rw [if_pos hib] at h3; exact lowv_okv x h3
      · exact lowv_tok (ownTok_tok hk)
    · rw [if_neg hfr]
      exact ⟨R.laid i off cs H1, rfl, lay_step hr hi hg hgc hcs hl hok (hlow _) hH hb1⟩
  unfold vlay at h
  simp only at h
  by_cases hk : foreign i off cs = []
  · simp only [hk, if_true] at h
    by_cases hok : cellsOk (if i < S.base.length then S.base.length else S.next) (decide (i < S.base.length)) i off cs = true
    · rw [if_pos hok] at h
      cases h
      obtain ⟨R1, h1, h2⟩ := core hr hi hg hgc hcs hl hH hok
      exact ⟨R1, h1, h2, rfl, rfl, rfl⟩
    · rw [if_neg hok] at h; cases h
  · simp only [hk, if_false] at h
    by_cases hok : cellsOk (if i < S.base.length then S.base.length else S.next) (decide (i < S.base.length)) i off (cs.map (mapOwn (Abs.thaw (foreign i off cs)))) = true
    · rw [if_pos hok] at h
      cases h
      have hlt : ∀ k ∈ foreign i off cs, k.2.isSome = true → k.1 < S.all.length := by
        intro k hkm hks
        obtain ⟨x, hx, hxk⟩ := foreign_mem cs off hkm
        obtain ⟨j, hj⟩ := List.getElem?_of_mem hx
        obtain ⟨u, _, hxu⟩ := hcs.get? hj
        exact toks_lt hr hxu k (by rw [ownTok_toks hxk]; simp) hks
      have t1 := thaw_step hr (foreign i off cs) hlt
      obtain ⟨c1, hc1, hc1l⟩ := turn_cells (g := Abs.thaw (foreign i off cs)) (boxesOf (foreign i off cs)) S c hg
      have hcs1 : RdL (R.less (foreign i off cs)) (cs.map (mapOwn (Abs.thaw (foreign i off cs)))) us := ⟨by simpa using hcs.1, fun j => by
        rw [getD_map_own]; exact t1.rd _ _ (hcs.2 j)⟩
      have hok' : cellsOk (if i < (S.thaw (foreign i off cs)).base.length then (S.thaw (foreign i off cs)).base.length else (S.thaw (foreign i off cs)).next) (decide (i < (S.thaw (foreign i off cs)).base.length)) i off (cs.map (mapOwn (Abs.thaw (foreign i off cs)))) = true := by
        rw [t1.bl, VH.next_eq, show (S.thaw (foreign i off cs)).all.length = S.all.length from len_turn _ _ _, ← VH.next_eq]; exact hok
      obtain ⟨R1, h1, h2⟩ := core (R := R.less (foreign i off cs)) t1.hr hi hc1 hgc hcs1 (by rw [List.length_map, hc1l]; exact hl) ⟨hH.nx, hH.oth⟩ hok'
      refine ⟨R1, h1, t1.trans h2 ?_ (by simp), rfl, rfl, rfl⟩
      intro b' hb' hw hkf
      rw [h1]
      refine hH.oth b' ?_
      rintro rfl
      exact (hw i (List.mem_singleton.2 rfl)).1 hi
    · rw [if_neg hok] at h; cases h
theorem store_box_ok (hr : HRel R S.all) {t : TypeId} {ad : Addr} {x a' x' : Value} {r : VRes} (ha : Rd R (.pointer (some ad)) a') (hx : Rd R x x') (h : vstore P t (.pointer (some ad)) x S = some r) : VOk P R S r ((astore P t a' x' R.H).map fun H' => .val undef H') := by
  unfold vstore at h
  simp only [view_pointer] at h
  obtain ⟨b, hb, hsp, rfl⟩ := ha.inv_ptr
  split at h
  · rename_i e c hg
    split at h
    · rename_i hh
      obtain ⟨h1, h2, h3, h4⟩ := hh
      obtain ⟨_, c', hgc, hcc, _⟩ := box_of hr hb hg
      have hcu := hx.cells h2
      have hsz := hx.cells_size h2
      have hH : LayH R b (R.H.put b (.cells true (bxT e) (setAll c' ad.off x'.cells.toList))) := ⟨next_put _ _ _, fun b' hb' => by rw [get_put, if_neg hb']⟩
      obtain ⟨R1, g1, g2, g3, g4, g5⟩ := lay_ok hr hb hg hgc hcu (by rw [Array.length_toList]; exact h3) h hH (by rw [get_put, if_pos rfl])
      refine ⟨undef, _, R1, ?_, g1, g2, ?_⟩
      · have : astore P t (.pointer (some ⟨b, ad.off, none⟩)) x' R.H = some (R.H.put b (.cells true (bxT e) (setAll c' ad.off x'.cells.toList))) :=
          astore_eq hgc (by rw [hsz]; exact h1) (hx.not_tup h2) (by rw [hsz, ← hcc.1]; exact h3)
        rw [this]
        rfl
      · rw [g5]; exact .undef _
    · cases h
  · cases h
theorem alloc_ok (hr : HRel R S.all) {t : TypeId} {z : Value} (hf : flat 8 z = true) :
    ∃ R1 : Rl, R1.H = R.H.push (.cells true (bxT t) z.cells.toList) ∧ Nxt R R1 S (S.push (.cells true t z.cells.toList)) [] false [] ∧ Rd R1 (.pointer (some ⟨S.next, 0, none⟩)) (.pointer (some ⟨R.H.next, 0, none⟩)) := by
  have hfz : ∀ n (v : Value), flat n v = true → toks v = [] := by
    intro n
    induction n with
    | zero =>
      intro v hv
      cases v with
      | agg x => simp [flat] at hv
      | iface t v => simp [flat] at hv
      | func => simp [flat] at hv
      | tuple => simp [flat] at hv
      | _ => rfl
    | succ n ih =>
      intro v hv
      cases v with
      | agg x =>
        obtain ⟨x⟩ := x
        rw [toks_agg, List.flatMap_eq_nil_iff]
        simp only [flat, List.all_eq_true, Bool.and_eq_true] at hv
        exact fun y hy => ih y (hv y hy).1
      | iface t v => rw [toks_iface]; exact ih v (by simpa [flat] using hv)
      | func => simp [flat] at hv
      | tuple => simp [flat] at hv
      | _ => rfl
  obtain ⟨g1, g2⟩ := push_box (t := t) (c := z.cells.toList) (c' := z.cells.toList) hr (rdl_flat hf (flat_not_tup hf)) (fun j x hx => by
    left
    have := hfz 8 z hf
    rw [← toks_cells, List.flatMap_eq_nil_iff] at this
    exact this x (List.mem_of_getElem? hx))
  exact ⟨_, rfl, g1, .ptr _ _ _ g2⟩
theorem put_push (S : VH) (b b' : Blk) : (S.push b).put S.next b' = S.push b' := by
  unfold VH.put VH.push VH.next
  simp only
  rw [if_neg (by omega)]
  congr 1
  rw [List.set_append, if_neg (by omega)]
  simp
theorem setAll_all (l c : List Value) (h : l.length = c.length) : setAll c 0 l = l := by
  apply List.ext_getElem?
  intro j
  rw [setAll_get _ _ _ _ (by omega)]
  split
  · rfl
  · rename_i hj
    rw [List.getElem?_eq_none (by omega), List.getElem?_eq_none (by omega)]
theorem box_ok (hr : HRel R S.all) {t : TypeId} {x x' : Value} (hx : Rd R x x') (ht : isTup x = false) {cs cs1 : List Value} {ks : List Tok} {S1 : VH} (hcs : cs = x.cells.toList) (hks : ks = foreign S.next 0 cs)
    (hS1 : S1 = if ks = [] then S else S.thaw ks) (hcs1 : cs1 = if ks = [] then cs else cs.map (mapOwn (Abs.thaw ks))) (hok : cellsOk S.next false S.next 0 cs1 = true) :
    ∃ R1 : Rl, R1.H = R.H.push (.cells true (bxT t) x'.cells.toList) ∧ Nxt R R1 S (S1.push (.cells true t (settle S.next 0 cs1))) [] false ((if ks = [] then [] else [Abs.thaw ks]) ++ (if toksL cs1 = [] then [] else [fate (fput S.next 0 cs1)])) ∧ Rd R1 (.pointer (some ⟨S.next, 0, none⟩)) (.pointer (some ⟨R.H.next, 0, none⟩)) := by
  have hcu := hx.cells ht
  rw [← hcs] at hcu
  have core : ∀ {R' : Rl} {S' : VH} {cs : List Value}, HRel R' S'.all → S'.next = S.next → R'.H = R.H → RdL R' cs x'.cells.toList → cellsOk S.next false S.next 0 cs = true →
      ∃ R1 : Rl, R1.H = R.H.push (.cells true (bxT t) x'.cells.toList) ∧ Nxt R' R1 S' (S'.push (.cells true t (settle S.next 0 cs))) [] false (if toksL cs = [] then [] else [fate (fput S.next 0 cs)]) ∧ R1.φ[S.next]? = some R.H.next := by
    intro R' S' cs hr' hn hH' hc hok
    obtain ⟨g1, g2⟩ := push_box (t := t) (c := x'.cells.toList.map fun _ => stale) (c' := x'.cells.toList) hr' (⟨by simp, fun i => by
      rw [List.getD_eq_getElem?_getD, List.getElem?_map]
      cases (x'.cells.toList)[i]? with
      | none => exact .undef _
      | some y => exact .stale 1 _ (by decide)⟩) (fun j y hy => by
      left
      rw [List.getElem?_map, Option.map_eq_some_iff] at hy
      obtain ⟨_, _, rfl⟩ := hy
      rfl)
    have hc2 : RdL { R' with φ := R'.φ ++ [R'.H.next], H := R'.H.push (.cells true (bxT t) x'.cells.toList) } cs x'.cells.toList := ⟨hc.1, fun i => g1.rd _ _ (hc.2 i)⟩
    have hgg : (S'.push (.cells true t (x'.cells.toList.map fun _ => stale))).get S.next = .cells true t (x'.cells.toList.map fun _ => stale) := by
      rw [VH.get_eq, VH.all_push, List.getD_eq_getElem?_getD, ← hn, VH.next_eq, List.getElem?_append_right (by omega)]
      simp
    have hgc : (R'.H.push (.cells true (bxT t) x'.cells.toList)).get R'.H.next = .cells true (bxT t) x'.cells.toList := by rw [get_push, if_pos rfl]
    rw [hn] at g2
    have hlay : ∀ cs', setAll (x'.cells.toList.map fun _ => stale) 0 (settle S.next 0 cs') = settle S.next 0 cs' ∨ cs'.length ≠ x'.cells.toList.length := by
      intro cs'
      by_cases h : cs'.length = x'.cells.toList.length
      · left; exact setAll_all _ _ (by rw [settle_len, List.length_map]; exact h)
      · right; exact h
    have hH1 : LayH { R' with φ := R'.φ ++ [R'.H.next], H := R'.H.push (.cells true (bxT t) x'.cells.toList) } R'.H.next (R'.H.push (.cells true (bxT t) x'.cells.toList)) := ⟨rfl, fun _ _ => rfl⟩
    have hset : setAll x'.cells.toList 0 x'.cells.toList = x'.cells.toList := setAll_all _ _ rfl
    have hlen : 0 + cs.length ≤ (x'.cells.toList.map fun _ => stale).length := by rw [List.length_map, hc.1]; omega
    have hSl : setAll (x'.cells.toList.map fun _ => stale) 0 (settle S.next 0 cs) = settle S.next 0 cs := setAll_all _ _ (by rw [settle_len, List.length_map]; exact hc.1)
    have hbn : ¬ S.next < S'.base.length := by rw [← hn]; unfold VH.next; omega
    have fin : ∀ {R1 : Rl} {g : List Turn}, R1.H = R.H.push (.cells true (bxT t) x'.cells.toList) → R1.φ = R'.φ ++ [R'.H.next] → Nxt { R' with φ := R'.φ ++ [R'.H.next], H := R'.H.push (.cells true (bxT t) x'.cells.toList) } R1 (S'.push (.cells true t (x'.cells.toList.map fun _ => stale))) ((S'.push (.cells true t (x'.cells.toList.map fun _ => stale))).put S.next (.cells true t (settle S.next 0 cs))) [S.next] false g →
        Nxt R' R1 S' (S'.push (.cells true t (settle S.next 0 cs))) [] false g := by
      intro R1 g e1 e2 hn2
      rw [← hn, put_push] at hn2
      have he : ∀ b', b' < R'.H.next → R1.H.get b' = R'.H.get b' := fun b' hb' => by rw [e1, ← hH', get_push, if_neg (by omega)]
      have := (g1.trans hn2 (fun b' hb' _ _ => he b' hb') (by simp)).weaken (ws2 := []) (kf2 := false) (fun b' hb' _ _ => he b' hb') (by simp)
      rw [hn] at this
      simpa using this
    by_cases hfr : toksL cs = []
    · rw [if_pos hfr]
      have := lay_plain (off := 0) g1.hr g2 hgg hgc hc2 hlen hfr (fun hh => absurd hh hbn) hH1 (by rw [hset, get_push, if_pos rfl])
      rw [← settle_free (i := S.next) cs 0 hfr, hSl] at this
      exact ⟨_, by rw [← hH'], fin (by rw [← hH']) rfl this, by rw [← hH']; exact g2⟩
    · rw [if_neg hfr]
      have := lay_step (off := 0) g1.hr g2 hgg hgc hc2 hlen hok (fun hh => absurd hh hbn) hH1 (by rw [hset, get_push, if_pos rfl])
      rw [hSl] at this
      exact ⟨_, by show R'.H.push _ = _; rw [← hH'], fin (by show R'.H.push _ = _; rw [← hH']) rfl this, by rw [← hH']; exact g2⟩
  by_cases hk : ks = []
  · rw [if_pos hk] at hS1 hcs1 ⊢
    subst hS1 hcs1
    obtain ⟨R1, h1, h2, h3⟩ := core hr rfl rfl hcu hok
    exact ⟨R1, h1, by simpa using h2, .ptr _ _ _ h3⟩
  · rw [if_neg hk] at hS1 hcs1 ⊢
    subst hS1 hcs1
    have hlt : ∀ k ∈ ks, k.2.isSome = true → k.1 < S.all.length := by
      intro k hkm hks'
      rw [hks] at hkm
      obtain ⟨y, hy, hyk⟩ := foreign_mem cs 0 hkm
      obtain ⟨j, hj⟩ := List.getElem?_of_mem hy
      obtain ⟨u, _, hyu⟩ := hcu.get? hj
      exact toks_lt hr hyu k (by rw [ownTok_toks hyk]; simp) hks'
    have t1 := thaw_step hr ks hlt
    obtain ⟨R1, h1, h2, h3⟩ := core (R' := R.less ks) (S' := S.thaw ks) t1.hr (by rw [VH.next_eq, VH.next_eq]; exact len_turn _ _ _) rfl ⟨by simpa using hcu.1, fun i => by rw [getD_map_own]; exact t1.rd _ _ (hcu.2 i)⟩ hok
    refine ⟨R1, h1, t1.trans h2 (fun b' hb' _ _ => ?_) (by simp), .ptr _ _ _ h3⟩
    rw [h1, get_push, if_neg (by omega)]
end
end Go.Proofs.YtmdpggecelheoaaDoor.Abs
