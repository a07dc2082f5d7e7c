/- Heavy operations over values with their slices: the plain heap answers alike. -/
import Derived.Test.YtliemjbafgnnbaaGreatDoorMW3
set_option linter.unnecessarySimpa false
set_option linter.unusedSimpArgs false
set_option linter.unusedVariables false
namespace Go.Proofs.YtliemjbafgnnbaaGreatDoor.Abs
open Go
section
variable {R R1 : Rl} {S : VH} {P : Program}
theorem Nxt.weaken {S1 : VH} {ws ws2 : List Nat} {kf kf2 : Bool} {g : List Turn} (h : Nxt R R1 S S1 ws kf g) (he : Eff R ws2 kf2 R1.H) (hw : ∀ i ∈ ws2, i < S.base.length → i ∈ S1.w) : Nxt R R1 S S1 ws2 kf2 g :=
 { h with eff := he, w2 := hw }
theorem zap7 (hr : HRel R S.all) {i b off : Nat} (hi : R.φ[i]? = some b) {o : Bool} {e : TypeId} {c c' : List Value} (hg : S.get i = .cells o e c) (hgc : R.H.get b = .cells true (bxT e) c') {cs us : List Value} (hcs : RdL R cs us) (hl : off + cs.length ≤ c.length)
    (hfree : toksL cs = []) (hlow : i < S.base.length → ∀ x ∈ cs, lowv S.base.length x = true) {H1 : Hp} (hH : LayH R b H1) (hb1 : H1.get b = .cells true (bxT e) (setAll c' off us)) :
    Nxt R { R with H := H1 } S (S.put i (.cells true e (setAll c off cs))) [i] false [] := by
 have hbm : b ∈ R.φ := List.mem_of_getElem? hi
 obtain ⟨_, c2, hg2, hcc, hrest⟩ := box_of hr hi hg
 rw [hgc] at hg2
 cases hg2
 have hρb : ∀ k b', R.ρ k = some b' → b' ≠ b := fun k b' h hh => (hr.sep k b' h).1 (hh ▸ hbm)
 have hst : Stays R { R with H := H1 } := ⟨fun i b h => h, fun b' hb => ⟨⟨by show b' < H1.next; rw [hH.nx]; exact hb.1, hb.2.1, hb.2.2⟩, hH.oth b' fun h => hb.2.1 (h ▸ hbm)⟩, fun d b _ h => h⟩
 have hf : FateOk R { R with H := H1 } fun _ => .keep := zah5 hr fun k b' h => ⟨h, hH.oth b' (hρb k b' h)⟩
 have hmem : ∀ j, j ∈ (S.put i (.cells true e (setAll c off cs))).w ↔ j ∈ S.w ∨ (j = i ∧ i < S.base.length) := fun j => VH.mem_w_put
 have hfl : ∀ x ∈ cs, toks x = [] := by rw [zady, List.flatMap_eq_nil_iff] at hfree; exact hfree
 refine { hr := ?_, pre := fun i b h => h, M := rfl, nx := by show R.H.next ≤ H1.next; rw [hH.nx]; omega, eff := ?_, bl := VH.base_put _ _ _, w1 := fun j hj => (hmem j).2 (.inl hj), w2 := fun j hj hjl => ?_, w3 := fun j hj => ?_, keep := fun _ _ _ _ => rfl, tok := fun k b h => .inl h, box := fun i b h => .inl h, rd := fun v u h => Rd.same hst hf h, low := ?_, same := fun j hj hw => (by rw [VH.all_put, List.getElem?_set_ne]; rintro rfl; exact hw ((hmem _).2 (.inr ⟨rfl, hj⟩))) }
 ·refine { len := by rw [VH.all_put, List.length_set]; exact hr.len, nodup := hr.nodup, lt := fun b' hb => by show b' < H1.next; rw [hH.nx]; exact hr.lt b' hb, inj := hr.inj, sep := fun k b' h => ⟨(hr.sep k b' h).1, by show b' < H1.next; rw [hH.nx]; exact (hr.sep k b' h).2⟩, fr := fun b' hb => hr.fr b' (by have : H1.next ≤ b' := hb; rw [hH.nx] at this; exact this), dom := hr.dom, own := hr.own, blk := ?_ }
  intro i' b' hb
  rw [VH.all_put, List.getD_eq_getElem?_getD, List.getElem?_set]
  by_cases hii : i = i'
  ·subst hii
   have hb' : R.φ[i]? = some b' := hb
   rw [hi] at hb'
   cases hb'
   have hil : i < S.all.length := by rw [← hr.len]; exact (List.getElem?_eq_some_iff.1 hi).1
   rw [if_pos rfl, if_pos hil]
   simp only [Option.getD_some]
   show BR _ i _ (H1.get b)
   rw [hb1]
   refine ⟨rfl, _, rfl, (hcc.same hst hf).setAll (hcs.same hst hf) off, fun j x hx => ?_⟩
   rw [zacl _ _ _ _ hl] at hx
   split at hx
   ·left; exact hfl x (List.mem_of_getElem? hx)
   ·exact hrest j x hx
  ·rw [if_neg hii, ← List.getD_eq_getElem?_getD]
   have hne : b' ≠ b := by
    rintro rfl
    obtain ⟨l1, e1⟩ := List.getElem?_eq_some_iff.1 hi
    obtain ⟨l2, e2⟩ := List.getElem?_eq_some_iff.1 (show R.φ[i']? = some b' from hb)
    exact hii ((List.getElem_inj (h₀ := l1) (h₁ := l2) hr.nodup).1 (e1.trans e2.symm))
   show BR _ i' _ (H1.get b')
   rw [hH.oth b' hne]
   exact (hr.blk i' b' hb).same hst hf
 ·intro b' hb hw _
  refine hH.oth b' ?_
  rintro rfl
  exact (hw i (by simp)).1 hi
 ·simp only [List.mem_singleton] at hj
  subst hj
  exact (hmem j).2 (.inr ⟨rfl, hjl⟩)
 ·rcases (hmem j).1 hj with h | h
  ·exact .inl h
  ·exact .inr (h.1 ▸ h.2)
 ·intro hlw i' hi' x hx
  rw [VH.all_put, List.getD_eq_getElem?_getD, List.getElem?_set] at hx
  by_cases hii : i = i'
  ·subst hii
   rw [if_pos rfl] at hx
   split at hx
   ·simp only [Option.getD_some, cellsIn] at hx
    obtain ⟨j, hj⟩ := List.getElem?_of_mem hx
    rw [zacl _ _ _ _ hl] at hj
    split at hj
    ·exact hlow hi' x (List.mem_of_getElem? hj)
    ·have := hlw i hi' x
     rw [← VH.get_eq, hg] at this
     exact this (List.mem_of_getElem? hj)
   ·cases hx
  ·rw [if_neg hii, ← List.getD_eq_getElem?_getD] at hx
   exact hlw i' hi' x hx
theorem zav6 {g : Turn} {i : Nat} {o : Bool} {e : TypeId} : ∀ (bs : List Nat) (S : VH) (c : List Value), S.get i = .cells o e c → ∃ c1, (S.turn g bs).get i = .cells o e c1 ∧ c1.length = c.length := by
 intro bs
 induction bs with
 | nil => intro S c h; exact ⟨c, h, rfl⟩
 | cons j bs ih =>
  intro S c h
  simp only [VH.turn]
  by_cases hij : j = i
  ·subst hij
   have hjl : j < S.all.length := by
    rcases Nat.lt_or_ge j S.all.length with h1 | h1
    ·exact h1
    ·rw [VH.get_eq, List.getD_eq_getElem?_getD, List.getElem?_eq_none h1] at h; cases h
   obtain ⟨c1, h1, h2⟩ := ih (S.put j (mapB (mapOwn g) (S.get j))) (c.map (mapOwn g)) (by
    rw [VH.get_eq, VH.all_put, List.getD_eq_getElem?_getD, List.getElem?_set, if_pos rfl, if_pos hjl, h]; rfl)
   exact ⟨c1, h1, by simpa using h2⟩
  ·exact ih _ c (by
    rw [VH.get_eq, VH.all_put, List.getD_eq_getElem?_getD, List.getElem?_set_ne hij, ← List.getD_eq_getElem?_getD, ← VH.get_eq]; exact h)
theorem zafp {i : Nat} {k : Tok} : ∀ (cs : List Value) (o : Nat), k ∈ foreign i o cs → ∃ x ∈ cs, ownTok x = some k
 | [], _, h => by cases h
 | c :: cs, o, h => by
  simp only [foreign, List.mem_append] at h
  rcases h with h | h
  ·split at h
   ·rename_i k' hk
    split at h
    ·cases h
    ·simp only [List.mem_singleton] at h
     subst h
     exact ⟨c, by simp, hk⟩
   ·cases h
  ·obtain ⟨x, hx, hk⟩ := zafp cs (o + 1) h
   exact ⟨x, by simp [hx], hk⟩
theorem lay_ok (hr : HRel R S.all) {i b off : Nat} (hi : R.φ[i]? = some b) {o : Bool} {e : TypeId} {c c' : List Value} (hg : S.get i = .cells o e c) (hgc : R.H.get b = .cells true (bxT e) c') {cs us : List Value} (hcs : RdL R cs us) (hl : off + cs.length ≤ c.length)
    {r : VRes} (h : vlay i off cs S e = some r) {H1 : Hp} (hH : LayH R b H1) (hb1 : H1.get b = .cells true (bxT e) (setAll c' off us)) : ∃ R1 : Rl, R1.H = H1 ∧ Nxt R R1 S r.S r.ws r.kf r.g ∧ r.ws = [i] ∧ r.kf = false ∧ r.v = undef := by
 have core : ∀ {R : Rl} {S : VH} {c : List Value} {cs : List Value} {o : Bool}, HRel R S.all → R.φ[i]? = some b → S.get i = .cells o e c → R.H.get b = .cells true (bxT e) c' → RdL R cs us → off + cs.length ≤ c.length → LayH R b H1 →
     cellsOk (if i < S.base.length then S.base.length else S.next) (decide (i < S.base.length)) i off cs = true →
     ∃ R1 : Rl, R1.H = H1 ∧ Nxt R R1 S (vput i off cs S e).S [i] false (vput i off cs S e).g := by
  intro R S c cs o hr hi hg hgc hcs hl hH hok
  have hlow : ∀ n, (i < S.base.length → (if i < S.base.length then S.base.length else n) = S.base.length) := fun n hh => by rw [if_pos hh]
  simp only [vput, hg, cellsIn]
  by_cases hfr : toksL cs = []
  ·rw [if_pos hfr, zafc cs off hfr]
   refine ⟨{ R with H := H1 }, rfl, zap7 hr hi hg hgc hcs hl hfr (fun hib x hx => ?_) hH hb1⟩
   obtain ⟨j, hj⟩ := List.getElem?_of_mem hx
   rcases (zaiq cs off hok j x hj).1 with ⟨_, _, h3⟩ | ⟨k, hk, _⟩
   ·rw [if_pos hib] at h3; exact zaj0 x h3
   ·exact zaf6 (zaff hk)
  ·rw [if_neg hfr]
   exact ⟨R.laid i off cs H1, rfl, zauq hr hi hg hgc hcs hl hok (hlow _) hH hb1⟩
 unfold vlay at h
 simp only at h
 by_cases hk : foreign i off cs = []
 ·simp only [hk, if_true] at h
  by_cases hok : cellsOk (if i < S.base.length then S.base.length else S.next) (decide (i < S.base.length)) i off cs = true
  ·rw [if_pos hok] at h
   cases h
   obtain ⟨R1, h1, h2⟩ := core hr hi hg hgc hcs hl hH hok
   exact ⟨R1, h1, h2, rfl, rfl, rfl⟩
  ·rw [if_neg hok] at h; cases h
 ·simp only [hk, if_false] at h
  by_cases hok : cellsOk (if i < S.base.length then S.base.length else S.next) (decide (i < S.base.length)) i off (cs.map (mapOwn (Abs.thaw (foreign i off cs)))) = true
  ·rw [if_pos hok] at h
   cases h
   have hlt : ∀ k ∈ foreign i off cs, k.2.isSome = true → k.1 < S.all.length := by
    intro k hkm hks
    obtain ⟨x, hx, hxk⟩ := zafp cs off hkm
    obtain ⟨j, hj⟩ := List.getElem?_of_mem hx
    obtain ⟨u, _, hxu⟩ := hcs.get? hj
    exact zaoa hr hxu k (by rw [zad8 hxk]; simp) hks
   have t1 := zag9 hr (foreign i off cs) hlt
   obtain ⟨c1, hc1, hc1l⟩ := zav6 (g := Abs.thaw (foreign i off cs)) (boxesOf (foreign i off cs)) S c hg
   have hcs1 : RdL (R.less (foreign i off cs)) (cs.map (mapOwn (Abs.thaw (foreign i off cs)))) us := ⟨by simpa using hcs.1, fun j => by
    rw [zab8]; exact t1.rd _ _ (hcs.2 j)⟩
   have hok' : cellsOk (if i < (S.thaw (foreign i off cs)).base.length then (S.thaw (foreign i off cs)).base.length else (S.thaw (foreign i off cs)).next) (decide (i < (S.thaw (foreign i off cs)).base.length)) i off (cs.map (mapOwn (Abs.thaw (foreign i off cs)))) = true := by
    rw [t1.bl, VH.next_eq, show (S.thaw (foreign i off cs)).all.length = S.all.length from zaus _ _ _, ← VH.next_eq]; exact hok
   obtain ⟨R1, h1, h2⟩ := core (R := R.less (foreign i off cs)) t1.hr hi hc1 hgc hcs1 (by rw [List.length_map, hc1l]; exact hl) ⟨hH.nx, hH.oth⟩ hok'
   refine ⟨R1, h1, t1.trans h2 ?_ (by simp), rfl, rfl, rfl⟩
   intro b' hb' hw hkf
   rw [h1]
   refine hH.oth b' ?_
   rintro rfl
   exact (hw i (List.mem_singleton.2 rfl)).1 hi
  ·rw [if_neg hok] at h; cases h
theorem zaph (hr : HRel R S.all) {t : TypeId} {ad : Addr} {x a' x' : Value} {r : VRes} (ha : Rd R (.pointer (some ad)) a') (hx : Rd R x x') (h : vstore P t (.pointer (some ad)) x S = some r) : VOk P R S r ((astore P t a' x' R.H).map fun H' => .val undef H') := by
 unfold vstore at h
 simp only [zakr] at h
 obtain ⟨b, hb, hsp, rfl⟩ := ha.inv_ptr
 split at h
 ·rename_i e c hg
  split at h
  ·rename_i hh
   obtain ⟨h1, h2, h3, h4⟩ := hh
   obtain ⟨_, c', hgc, hcc, _⟩ := box_of hr hb hg
   have hcu := hx.cells h2
   have hsz := hx.cells_size h2
   have hH : LayH R b (R.H.put b (.cells true (bxT e) (setAll c' ad.off x'.cells.toList))) := ⟨zaau _ _ _, fun b' hb' => by rw [zaba, if_neg hb']⟩
   obtain ⟨R1, g1, g2, g3, g4, g5⟩ := lay_ok hr hb hg hgc hcu (by rw [Array.length_toList]; exact h3) h hH (by rw [zaba, if_pos rfl])
   refine ⟨undef, _, R1, ?_, g1, g2, ?_⟩
   ·have : astore P t (.pointer (some ⟨b, ad.off, none⟩)) x' R.H = some (R.H.put b (.cells true (bxT e) (setAll c' ad.off x'.cells.toList))) :=
     zapx hgc (by rw [hsz]; exact h1) (hx.not_tup h2) (by rw [hsz, ← hcc.1]; exact h3)
    rw [this]
    rfl
   ·rw [g5]; exact .undef _
  ·cases h
 ·cases h
theorem za15 (hr : HRel R S.all) {t : TypeId} {z : Value} (hf : flat 8 z = true) :
    ∃ R1 : Rl, R1.H = R.H.push (.cells true (bxT t) z.cells.toList) ∧ Nxt R R1 S (S.push (.cells true t z.cells.toList)) [] false [] ∧ Rd R1 (.pointer (some ⟨S.next, 0, none⟩)) (.pointer (some ⟨R.H.next, 0, none⟩)) := by
 have hfz : ∀ n (v : Value), flat n v = true → toks v = [] := by
  intro n
  induction n with
  | zero =>
   intro v hv
   cases v with
   | agg x => simp [flat] at hv
   | iface t v => simp [flat] at hv
   | func => simp [flat] at hv
   | tuple => simp [flat] at hv
   | _ => rfl
  | succ n ih =>
   intro v hv
   cases v with
   | agg x =>
    obtain ⟨x⟩ := x
    rw [zagc, List.flatMap_eq_nil_iff]
    simp only [flat, List.all_eq_true, Bool.and_eq_true] at hv
    exact fun y hy => ih y (hv y hy).1
   | iface t v => rw [zaf0]; exact ih v (by simpa [flat] using hv)
   | func => simp [flat] at hv
   | tuple => simp [flat] at hv
   | _ => rfl
 obtain ⟨g1, g2⟩ := zavb (t := t) (c := z.cells.toList) (c' := z.cells.toList) hr (zapb hf (zajv hf)) (fun j x hx => by
  left
  have := hfz 8 z hf
  rw [← zakj, List.flatMap_eq_nil_iff] at this
  exact this x (List.mem_of_getElem? hx))
 exact ⟨_, rfl, g1, .ptr _ _ _ g2⟩
theorem za23 (S : VH) (b b' : Blk) : (S.push b).put S.next b' = S.push b' := by
 unfold VH.put VH.push VH.next
 simp only
 rw [if_neg (by omega)]
 congr 1
 rw [List.set_append, if_neg (by omega)]
 simp
theorem zakg (l c : List Value) (h : l.length = c.length) : setAll c 0 l = l := by
 apply List.ext_getElem?
 intro j
 rw [zacl _ _ _ _ (by omega)]
 split
 ·rfl
 ·rename_i hj
  rw [List.getElem?_eq_none (by omega), List.getElem?_eq_none (by omega)]
theorem box_ok (hr : HRel R S.all) {t : TypeId} {x x' : Value} (hx : Rd R x x') (ht : isTup x = false) {cs cs1 : List Value} {ks : List Tok} {S1 : VH} (hcs : cs = x.cells.toList) (hks : ks = foreign S.next 0 cs)
    (hS1 : S1 = if ks = [] then S else S.thaw ks) (hcs1 : cs1 = if ks = [] then cs else cs.map (mapOwn (Abs.thaw ks))) (hok : cellsOk S.next false S.next 0 cs1 = true) :
    ∃ R1 : Rl, R1.H = R.H.push (.cells true (bxT t) x'.cells.toList) ∧ Nxt R R1 S (S1.push (.cells true t (settle S.next 0 cs1))) [] false ((if ks = [] then [] else [Abs.thaw ks]) ++ (if toksL cs1 = [] then [] else [fate (fput S.next 0 cs1)])) ∧ Rd R1 (.pointer (some ⟨S.next, 0, none⟩)) (.pointer (some ⟨R.H.next, 0, none⟩)) := by
 have hcu := hx.cells ht
 rw [← hcs] at hcu
 have core : ∀ {R' : Rl} {S' : VH} {cs : List Value}, HRel R' S'.all → S'.next = S.next → R'.H = R.H → RdL R' cs x'.cells.toList → cellsOk S.next false S.next 0 cs = true →
     ∃ R1 : Rl, R1.H = R.H.push (.cells true (bxT t) x'.cells.toList) ∧ Nxt R' R1 S' (S'.push (.cells true t (settle S.next 0 cs))) [] false (if toksL cs = [] then [] else [fate (fput S.next 0 cs)]) ∧ R1.φ[S.next]? = some R.H.next := by
  intro R' S' cs hr' hn hH' hc hok
  obtain ⟨g1, g2⟩ := zavb (t := t) (c := x'.cells.toList.map fun _ => stale) (c' := x'.cells.toList) hr' (⟨by simp, fun i => by
   rw [List.getD_eq_getElem?_getD, List.getElem?_map]
   cases (x'.cells.toList)[i]? with
   | none => exact .undef _
   | some y => exact .stale 1 _ (by decide)⟩) (fun j y hy => by
   left
   rw [List.getElem?_map, Option.map_eq_some_iff] at hy
   obtain ⟨_, _, rfl⟩ := hy
   rfl)
  have hc2 : RdL { R' with φ := R'.φ ++ [R'.H.next], H := R'.H.push (.cells true (bxT t) x'.cells.toList) } cs x'.cells.toList := ⟨hc.1, fun i => g1.rd _ _ (hc.2 i)⟩
  have hgg : (S'.push (.cells true t (x'.cells.toList.map fun _ => stale))).get S.next = .cells true t (x'.cells.toList.map fun _ => stale) := by
   rw [VH.get_eq, VH.all_push, List.getD_eq_getElem?_getD, ← hn, VH.next_eq, List.getElem?_append_right (by omega)]
   simp
  have hgc : (R'.H.push (.cells true (bxT t) x'.cells.toList)).get R'.H.next = .cells true (bxT t) x'.cells.toList := by rw [zaaj, if_pos rfl]
  rw [hn] at g2
  have hlay : ∀ cs', setAll (x'.cells.toList.map fun _ => stale) 0 (settle S.next 0 cs') = settle S.next 0 cs' ∨ cs'.length ≠ x'.cells.toList.length := by
   intro cs'
   by_cases h : cs'.length = x'.cells.toList.length
   ·left; exact zakg _ _ (by rw [zafy, List.length_map]; exact h)
   ·right; exact h
  have hH1 : LayH { R' with φ := R'.φ ++ [R'.H.next], H := R'.H.push (.cells true (bxT t) x'.cells.toList) } R'.H.next (R'.H.push (.cells true (bxT t) x'.cells.toList)) := ⟨rfl, fun _ _ => rfl⟩
  have hset : setAll x'.cells.toList 0 x'.cells.toList = x'.cells.toList := zakg _ _ rfl
  have hlen : 0 + cs.length ≤ (x'.cells.toList.map fun _ => stale).length := by rw [List.length_map, hc.1]; omega
  have hSl : setAll (x'.cells.toList.map fun _ => stale) 0 (settle S.next 0 cs) = settle S.next 0 cs := zakg _ _ (by rw [zafy, List.length_map]; exact hc.1)
  have hbn : ¬ S.next < S'.base.length := by rw [← hn]; unfold VH.next; omega
  have fin : ∀ {R1 : Rl} {g : List Turn}, R1.H = R.H.push (.cells true (bxT t) x'.cells.toList) → R1.φ = R'.φ ++ [R'.H.next] → Nxt { R' with φ := R'.φ ++ [R'.H.next], H := R'.H.push (.cells true (bxT t) x'.cells.toList) } R1 (S'.push (.cells true t (x'.cells.toList.map fun _ => stale))) ((S'.push (.cells true t (x'.cells.toList.map fun _ => stale))).put S.next (.cells true t (settle S.next 0 cs))) [S.next] false g →
      Nxt R' R1 S' (S'.push (.cells true t (settle S.next 0 cs))) [] false g := by
   intro R1 g e1 e2 hn2
   rw [← hn, za23] at hn2
   have he : ∀ b', b' < R'.H.next → R1.H.get b' = R'.H.get b' := fun b' hb' => by rw [e1, ← hH', zaaj, if_neg (by omega)]
   have := (g1.trans hn2 (fun b' hb' _ _ => he b' hb') (by simp)).weaken (ws2 := []) (kf2 := false) (fun b' hb' _ _ => he b' hb') (by simp)
   rw [hn] at this
   simpa using this
  by_cases hfr : toksL cs = []
  ·rw [if_pos hfr]
   have := zap7 (off := 0) g1.hr g2 hgg hgc hc2 hlen hfr (fun hh => absurd hh hbn) hH1 (by rw [hset, zaaj, if_pos rfl])
   rw [← zafc (i := S.next) cs 0 hfr, hSl] at this
   exact ⟨_, by rw [← hH'], fin (by rw [← hH']) rfl this, by rw [← hH']; exact g2⟩
  ·rw [if_neg hfr]
   have := zauq (off := 0) g1.hr g2 hgg hgc hc2 hlen hok (fun hh => absurd hh hbn) hH1 (by rw [hset, zaaj, if_pos rfl])
   rw [hSl] at this
   exact ⟨_, by show R'.H.push _ = _; rw [← hH'], fin (by show R'.H.push _ = _; rw [← hH']) rfl this, by rw [← hH']; exact g2⟩
 by_cases hk : ks = []
 ·rw [if_pos hk] at hS1 hcs1 ⊢
  subst hS1 hcs1
  obtain ⟨R1, h1, h2, h3⟩ := core hr rfl rfl hcu hok
  exact ⟨R1, h1, by simpa using h2, .ptr _ _ _ h3⟩
 ·rw [if_neg hk] at hS1 hcs1 ⊢
  subst hS1 hcs1
  have hlt : ∀ k ∈ ks, k.2.isSome = true → k.1 < S.all.length := by
   intro k hkm hks'
   rw [hks] at hkm
   obtain ⟨y, hy, hyk⟩ := zafp cs 0 hkm
   obtain ⟨j, hj⟩ := List.getElem?_of_mem hy
   obtain ⟨u, _, hyu⟩ := hcu.get? hj
   exact zaoa hr hyu k (by rw [zad8 hyk]; simp) hks'
  have t1 := zag9 hr ks hlt
  obtain ⟨R1, h1, h2, h3⟩ := core (R' := R.less ks) (S' := S.thaw ks) t1.hr (by rw [VH.next_eq, VH.next_eq]; exact zaus _ _ _) rfl ⟨by simpa using hcu.1, fun i => by rw [zab8]; exact t1.rd _ _ (hcu.2 i)⟩ hok
  refine ⟨R1, h1, t1.trans h2 (fun b' hb' _ _ => ?_) (by simp), .ptr _ _ _ h3⟩
  rw [h1, zaaj, if_neg (by omega)]
end
end Go.Proofs.YtliemjbafgnnbaaGreatDoor.Abs
/- Any heavy operation over values with their slices. -/
namespace Go.Proofs.YtliemjbafgnnbaaGreatDoor.Abs
open Go
section
variable {R R1 : Rl} {S : VH} {P : Program}
theorem za5e (k : Tok) (j : Nat) (x : Value) : Low (upd k j x) := by
 intro n v hv
 unfold upd
 split
 ·split
  ·split <;> rfl
  ·exact zaf6 hv
 ·split
  ·rfl
  ·exact zaf6 hv
 ·split
  ·rfl
  ·exact zaf6 hv
 ·exact zaf6 hv
theorem za21 {l : List Value} (h : okvL 0 true l = true) (i : Nat) {x : Value} (hx : okv 0 true x = true) : okvL 0 true (l.set i x) = true := by
 rw [zaeo, List.all_eq_true] at h ⊢
 intro y hy
 rcases List.mem_or_eq_of_mem_set hy with hy | rfl
 ·exact h y hy
 ·exact hx
theorem zawy {sz : Nat} (h0 : 0 < sz) {off j : Nat} {l : List Value} {c us : List Value} {x : Value} (hsz : ∀ y ∈ l, y.cells.size = sz) (hx : x.cells.size = sz) (hu : RdL R1 x.cells.toList us) (hl : off * sz + l.length * sz ≤ c.length) (hj : j * sz + sz ≤ c.length)
    (hc : RdL R1 (cellsL l) ((c.drop (off * sz)).take (l.length * sz))) :
    RdL R1 (cellsL (if off ≤ j then l.set (j - off) x else l)) (((setAll c (j * sz) us).drop (off * sz)).take ((if off ≤ j then l.set (j - off) x else l).length * sz)) := by
 have hul : us.length = sz := by rw [← hu.1, Array.length_toList]; exact hx
 have hle : (if off ≤ j then l.set (j - off) x else l).length = l.length := by split <;> simp
 rw [hle]
 by_cases hin : off ≤ j ∧ j < off + l.length
 ·rw [if_pos hin.1, zam6 hsz (by omega) hx]
  have h1 := hc.setAll hu ((j - off) * sz)
  have e : ((setAll c (j * sz) us).drop (off * sz)).take (l.length * sz) = setAll ((c.drop (off * sz)).take (l.length * sz)) ((j - off) * sz) us := by
   have hm : (j - off) * sz + sz ≤ l.length * sz := by
    have := Nat.mul_le_mul_right sz (show j - off + 1 ≤ l.length by omega)
    rwa [Nat.add_mul, Nat.one_mul] at this
   have hjo : j * sz = off * sz + (j - off) * sz := by rw [← Nat.add_mul]; congr 1; omega
   apply List.ext_getElem?
   intro i
   rw [zacl _ _ _ _ (by rw [List.length_take, List.length_drop, hul]; omega), List.getElem?_take, List.getElem?_drop, zacl _ _ _ _ (by rw [hul]; exact hj), hul]
   by_cases hi : i < l.length * sz
   ·rw [if_pos hi]
    by_cases hb : (j - off) * sz ≤ i ∧ i < (j - off) * sz + sz
    ·rw [if_pos hb, if_pos (by omega)]
     congr 1
     omega
    ·rw [if_neg hb, if_neg (by omega), List.getElem?_take, if_pos hi, List.getElem?_drop]
   ·rw [if_neg hi, if_neg (by omega), List.getElem?_take, if_neg hi]
  rw [e]
  exact h1
 ·have e : ((setAll c (j * sz) us).drop (off * sz)).take (l.length * sz) = (c.drop (off * sz)).take (l.length * sz) := by
   apply List.ext_getElem?
   intro i
   rw [List.getElem?_take, List.getElem?_take, List.getElem?_drop, List.getElem?_drop, zacl _ _ _ _ (by rw [hul]; exact hj), hul]
   by_cases hi : i < l.length * sz
   ·rw [if_pos hi, if_pos hi, if_neg]
    rintro ⟨h1, h2⟩
    by_cases h : off ≤ j
    ·have : off + l.length ≤ j := by omega
     have := Nat.mul_le_mul_right sz this
     rw [Nat.add_mul] at this
     omega
    ·have : j + 1 ≤ off := by omega
     have := Nat.mul_le_mul_right sz this
     rw [Nat.add_mul, Nat.one_mul] at this
     omega
   ·rw [if_neg hi, if_neg hi]
  rw [e]
  have e2 : (if off ≤ j then l.set (j - off) x else l) = l := by
   split
   ·rw [List.set_eq_of_length_le]; omega
   ·rfl
  rw [e2]
  exact hc
theorem za3t (hr : HRel R S.all) {k : Tok} {b j sz : Nat} {el : TypeId} {c us : List Value} {x : Value} (h0 : 0 < sz) (hk : R.ρ k = some b) (hg : R.H.get b = .cells true el c) (hx : x.cells.size = sz) (hok : okv 0 true x = true) (hu : RdL R x.cells.toList us) (hj : j * sz + sz ≤ c.length) :
    Nxt R { R with H := R.H.put b (.cells true el (setAll c (j * sz) us)) } S (S.turn (upd k j x) (ownBox k)) (ownBox k) k.2.isNone [upd k j x] := by
 have hoth : ∀ b', b' ≠ b → (R.H.put b (.cells true el (setAll c (j * sz) us))).get b' = R.H.get b' := fun b' h => by rw [zaba, if_neg h]
 have hst : Stays R { R with H := R.H.put b (.cells true el (setAll c (j * sz) us)) } := ⟨fun i b h => h, fun b' hb => ⟨⟨by show b' < (R.H.put _ _).next; rw [zaau]; exact hb.1, hb.2.1, hb.2.2⟩, hoth b' fun h => hb.2.2 k (h ▸ hk)⟩, fun d b _ h => h⟩
 have hus : RdL { R with H := R.H.put b (.cells true el (setAll c (j * sz) us)) } x.cells.toList us := ⟨hu.1, fun i => Rd.free hst (hu.2 i) (zabu (zadu hok) i)⟩
 have hown : ∀ v u, isTok v = true → Rd R v u → Rd { R with H := R.H.put b (.cells true el (setAll c (j * sz) us)) } (upd k j x (view v) v) u := by
  intro v u hv h
  cases h with
  | own k' sz' off l b' el' c' h1 h2 h3 h4 h5 h6 h7 =>
   have h7' := fun i => Rd.free hst (h7 i) (zabu (zad6 h6) i)
   rw [zacp]
   simp only [upd]
   by_cases hkk : k' = k
   ·rw [if_pos hkk]
    subst hkk
    rw [hk] at h2
    cases h2
    rw [hg] at h3
    cases h3
    by_cases hss : sz' = x.cells.size
    ·rw [if_pos hss]
     have hss' : sz' = sz := by rw [hss, hx]
     subst hss'
     have hle : (if off ≤ j then l.set (j - off) x else l).length = l.length := by split <;> simp
     have hw := zawy (R1 := { R with H := R.H.put b (.cells true el (setAll c (j * sz') us)) }) h1 h5 hx hus h4 hj ⟨by rw [zaek h5, List.length_take, List.length_drop]; omega, h7'⟩
     have := Rd.own (R := { R with H := R.H.put b (.cells true el (setAll c (j * sz') us)) }) k' sz' off (if off ≤ j then l.set (j - off) x else l) b el (setAll c (j * sz') us) h1 hk (by show (R.H.put _ _).get b = _; rw [zaba, if_pos rfl]) (by rw [hle, zan3]; exact h4) (by
      intro y hy
      split at hy
      ·rcases List.mem_or_eq_of_mem_set hy with hy | rfl
       ·exact h5 y hy
       ·exact hx
      ·exact h5 y hy) (by split; exact za21 h6 _ hok; exact h6) hw.2
     rw [hle] at this
     exact this
    ·rw [if_neg hss]; exact .stale 1 _ (by decide)
   ·rw [if_neg hkk]
    have hne : b' ≠ b := fun h => hkk (hr.inj k' k b (h ▸ h2) hk)
    exact .own k' sz' off l b' el' c' h1 h2 (by show (R.H.put _ _).get b' = _; rw [hoth b' hne]; exact h3) h4 h5 h6 h7'
  | atOwn k' sz' off y b' el' c' h1 h2 h3 h4 h5 h6 h7 =>
   have h7' := fun i => Rd.free hst (h7 i) (zabu (zadu h6) i)
   rw [zadz]
   simp only [upd]
   by_cases hkk : k' = k
   ·rw [if_pos hkk]; exact .stale 1 _ (by decide)
   ·rw [if_neg hkk]
    have hne : b' ≠ b := fun h => hkk (hr.inj k' k b (h ▸ h2) hk)
    exact .atOwn k' sz' off y b' el' c' h1 h2 (by show (R.H.put _ _).get b' = _; rw [hoth b' hne]; exact h3) h4 h5 h6 h7'
  | inOwn k' y b' off el' c' h2 h3 h4 h5 h6 =>
   have h6' := fun i => Rd.free hst (h6 i) (zabu (zadu h5) i)
   rw [zad0]
   simp only [upd]
   by_cases hkk : k' = k
   ·rw [if_pos hkk]; exact .stale 1 _ (by decide)
   ·rw [if_neg hkk]
    have hne : b' ≠ b := fun h => hkk (hr.inj k' k b (h ▸ h2) hk)
    exact .inOwn k' y b' off el' c' h2 (by show (R.H.put _ _).get b' = _; rw [hoth b' hne]; exact h3) h4 h5 h6'
  | scal v h => rw [zanf h] at hv; cases hv
  | _ => exact absurd (show false = true from hv) (by decide)
 obtain ⟨t1, t2, t3, t4⟩ := VH.turn_all (upd k j x) (ownBox k) S fun _ _ _ => trivial
 have hob : ∀ i o, k = (i, some o) → i ∈ ownBox k := by rintro i o rfl; simp [ownBox]
 have hgb : ∀ (i b' : Nat), R.φ[i]? = some b' → (R.H.put b (.cells true el (setAll c (j * sz) us))).get b' = R.H.get b' := fun i b' hb => by
  have hm := List.mem_of_getElem? hb
  exact hoth b' (fun h => (hr.sep k b hk).1 (h ▸ hm))
 -- boxes: turned, or turned again
 have hmap : ∀ (i : Nat) (B B' : Blk), BR R i B B' → BR { R with H := R.H.put b (.cells true el (setAll c (j * sz) us)) } i (mapB (mapOwn (upd k j x)) B) B' := by
  intro i B B' h
  cases B with
  | cells o e c2 =>
   obtain ⟨h1, c', h2, h3, h4⟩ := h
   refine ⟨h1, c', h2, ⟨by simpa using h3.1, fun q => by rw [zab8]; exact Rd.turn (zaj5 k j x) hst hown (h3.2 q)⟩, fun q y hy => ?_⟩
   rw [List.getElem?_map, Option.map_eq_some_iff] at hy
   obtain ⟨z, hz, rfl⟩ := hy
   rcases h4 q z hz with h5 | h5
   ·left; rw [zabe (zaj5 k j x) z h5]; exact h5
   ·rw [zaft (zaff h5)]
    obtain ⟨sz', off, l, hv⟩ := zacn h5
    rw [hv]
    simp only [upd]
    split
    ·rename_i hkk
     split
     ·right; rw [← hkk]; simp only [ownTok, zacp]
     ·left; rfl
    ·right; exact h5
  | _ => trivial
 have hone : ∀ (i b' : Nat), R.φ[i]? = some b' → BR { R with H := R.H.put b (.cells true el (setAll c (j * sz) us)) } i ((S.turn (upd k j x) (ownBox k)).all.getD i .dead) (R.H.get b') := by
  intro i b' hb
  by_cases hib : i ∈ ownBox k
  ·have hki : ownBox k = [i] := by
    obtain ⟨k1, k2⟩ := k
    cases k2 with
    | none => simp [ownBox] at hib
    | some o => simp [ownBox] at hib ⊢; exact hib.symm
   rw [hki]
   simp only [VH.turn]
   have hil : i < S.all.length := by rw [← hr.len]; exact (List.getElem?_eq_some_iff.1 hb).1
   rw [VH.all_put, List.getD_eq_getElem?_getD, List.getElem?_set, if_pos rfl, if_pos hil, VH.get_eq]
   exact hmap i _ _ (hr.blk i b' hb)
  ·rw [t3 i hib]
   have hB := hr.blk i b' hb
   have := hmap i _ _ hB
   have hsame : mapB (mapOwn (upd k j x)) (S.all.getD i .dead) = S.all.getD i .dead := by
    generalize S.all.getD i .dead = B at hB
    cases B with
    | cells o e c2 =>
     obtain ⟨h1, c', h2, h3, h4⟩ := hB
     simp only [mapB]
     congr 1
     apply List.ext_getElem?
     intro q
     rw [List.getElem?_map]
     cases hq : c2[q]? with
     | none => rfl
     | some y =>
      simp only [Option.map_some]
      congr 1
      rcases h4 q y hq with h5 | h5
      ·exact zabe (zaj5 k j x) y h5
      ·rw [zaft (zaff h5)]
       obtain ⟨sz', off, l, hv⟩ := zacn h5
       rw [hv]
       simp only [upd]
       rw [if_neg]
       intro h
       exact hib (hob i q h.symm)
    | _ => rfl
   rw [hsame] at this
   exact this
 refine { hr := ?_, pre := fun i b h => h, M := rfl, nx := by show R.H.next ≤ (R.H.put _ _).next; rw [zaau]; omega, eff := ?_, bl := t2, w1 := fun i hi => (t4 i).2 (.inl hi), w2 := fun i hi hl => (t4 i).2 (.inr ⟨hi, hl⟩), w3 := fun i hi => ?_, keep := fun _ _ _ _ => rfl, tok := fun k b h => .inl h, box := fun i b h => .inl h, rd := fun v u h => Rd.turn (zaj5 k j x) hst hown h, low := zao6 (zaj5 k j x) (za5e k j x) _ S, same := zamk _ _ S }
 ·exact { len := by rw [t1]; exact hr.len, nodup := hr.nodup, lt := fun b' hb => by show b' < (R.H.put _ _).next; rw [zaau]; exact hr.lt b' hb, inj := hr.inj, sep := fun k b' h => ⟨(hr.sep k b' h).1, by show b' < (R.H.put _ _).next; rw [zaau]; exact (hr.sep k b' h).2⟩, fr := fun b' hb => hr.fr b' (by have : (R.H.put b (.cells true el (setAll c (j * sz) us))).next ≤ b' := hb; rwa [zaau] at this), dom := hr.dom, own := hr.own, blk := fun i b' hb => by show BR _ i _ ((R.H.put _ _).get b'); rw [hgb i b' hb]; exact hone i b' hb }
 ·intro b' hb hw hkf
  refine hoth b' ?_
  rintro rfl
  obtain ⟨k1, k2⟩ := k
  cases k2 with
  | none => exact hkf rfl k1 hk
  | some o => exact (hw k1 (by simp [ownBox])).2 o hk
 ·rcases (t4 i).1 hi with h | h
  ·exact .inl h
  ·exact .inr h.2
end
end Go.Proofs.YtliemjbafgnnbaaGreatDoor.Abs
/- Any heavy operation over values with their slices: the plain heap answers alike. -/
namespace Go.Proofs.YtliemjbafgnnbaaGreatDoor.Abs
open Go
section
variable {R R1 : Rl} {S : VH} {P : Program}
theorem zasu {v : Value} (h2 : isTup v = false) : isTup (mapOwn thawAll v) = false ∧ (mapOwn thawAll v).cells.size = v.cells.size := by
 cases v with
 | func f x y =>
  cases f with
  | func i => obtain ⟨x⟩ := x; obtain ⟨y⟩ := y; rw [zafs]; exact ⟨rfl, rfl⟩
  | _ =>
   simp only [mapOwn, thawAll, fate]
   split <;> exact ⟨rfl, rfl⟩
 | agg x => obtain ⟨x⟩ := x; rw [zab3]; exact ⟨rfl, by simp [Value.cells]⟩
 | tuple => cases h2
 | chan => cases h2
 | _ => exact ⟨rfl, rfl⟩
theorem za2u {ks : List Tok} {ws : List Nat} {kf : Bool} {H' : Hp} (h : Eff (R.less ks) ws kf H') : Eff R ws kf H' := by
 have hk : ∀ k b, R.ρ k ≠ some b → (R.less ks).ρ k ≠ some b := by
  intro k b h hh
  simp only [Rl.less] at hh
  split at hh
  ·cases hh
  ·exact h hh
 intro b hb hw hkf
 exact h b hb (fun i hi => ⟨(hw i hi).1, fun o => hk _ _ ((hw i hi).2 o)⟩) fun hf d => hk _ _ (hkf hf d)
theorem zay3 (hr : HRel R S.all) {t : TypeId} {a x a' x' : Value} {r : VRes} (ha : Rd R a a') (hx : Rd R x x') (h : vstore P t a x S = some r) : VOk P R S r ((astore P t a' x' R.H).map fun H' => .val undef H') := by
 cases hv : view a with
 | atOwn k j y =>
  obtain rfl := ha.is_atOwn hv
  obtain ⟨sz, b, rfl, h0, hys, hk, ⟨el, c, hg⟩, o', el', c', hg', hle, _, _⟩ := ha.inv_atOwn
  rw [hg] at hg'
  cases hg'
  unfold vstore at h
  simp only [hv] at h
  split at h
  ·rename_i hh
   obtain ⟨h1, h2, h3, h4, h5⟩ := hh
   cases h
   have hlt := zaoa hr hx
   have t1 := zag9 hr (toks x) hlt
   have hx1 : Rd (R.less (toks x)) (mapOwn thawAll x) x' := by
    have := t1.rd _ _ hx
    simp only [turns, List.foldl_cons, List.foldl_nil] at this
    rwa [zaki (ks := toks x) fun k hk => hk]
   obtain ⟨ht1, ht2⟩ := zasu h3
   have t2 := za3t (S := S.thaw (toks x)) (j := j) (us := x'.cells.toList) t1.hr h0 (show (R.less (toks x)).ρ k = some b by simp only [Rl.less]; rw [if_neg h5]; exact hk) hg (by rw [ht2, ← h2]; exact hys) h4 (hx1.cells ht1) (by omega)
   have := t1.trans t2 (za2u t2.eff) (by simp)
   have hcs := hx.cells_size h3
   refine ⟨undef, _, _, ?_, rfl, this, .undef _⟩
   rw [zapx hg (by rw [hcs]; exact h1) (hx.not_tup h3) (by rw [hcs, ← h2]; exact hle)]
   rfl
  ·cases h
 | _ =>
  cases a with
  | pointer ad =>
   cases ad with
   | some ad => exact zaph hr ha hx h
   | none => unfold vstore at h; simp only [hv] at h; cases h
  | _ => unfold vstore at h; simp only [hv] at h; cases h
theorem zat0 (hr : HRel R S.all) {d : Nat} {src dst e : TypeId} {s : ByteArray} (he : elemT P dst = some e) (hs : P.underlying src = some .string) (hu : P.underlying e = some (.int .u8)) (hz : szT P e = some 1) :
    VOk P R S ⟨vo (d, none) 1 0 (s.data.toList.map fun b => .int .u8 b.toNat), [thaw [(d, none)]], S, [], false⟩ (some (.val (.slice (some ⟨R.H.next, 0, none⟩) s.size 1) (R.H.push (.cells true (slT e) (s.data.toList.map fun b => .int .u8 b.toNat))))) := by
 obtain ⟨R1, h1, h2, h3⟩ := zau1 (S := S) hr d [] (by simp) (slT e) (s.data.toList.map fun b => .int .u8 b.toNat)
 rw [zav3] at h2
 have e1 : ∀ l : List UInt8, cellsL (l.map fun b => Value.int .u8 b.toNat) = l.map fun b => Value.int .u8 b.toNat := by
  intro l
  induction l with
  | nil => rfl
  | cons a l ih => simp only [cellsL, List.map_cons, List.flatMap_cons] at ih ⊢; rw [ih]; rfl
 have hsz : s.data.toList.length = s.size := Array.length_toList
 refine ⟨_, _, R1, rfl, h1, h2, ?_⟩
 have := rd_new (R := R1) (d := d) (sz := 1) (l := s.data.toList.map fun b => .int .u8 b.toNat) (b := R.H.next) (t := slT e) (c' := s.data.toList.map fun b => .int .u8 b.toNat) (by omega) h3 (by rw [h1, zaaj, if_pos rfl]) (by simp) (by
  intro y hy
  simp only [List.mem_map] at hy
  obtain ⟨b, _, rfl⟩ := hy
  rfl) (by
  rw [zaeo, List.all_eq_true]
  intro y hy
  simp only [List.mem_map] at hy
  obtain ⟨b, _, rfl⟩ := hy
  rfl) (by rw [e1]; exact RdL.map _ fun x _ => .int _ _)
 rw [List.length_map, hsz] at this
 exact this
theorem hop_ok (hr : HRel R S.all) {d : Nat} {ρ ρ' : Operand → Value} (hρ : ∀ x, Rd R (ρ x) (ρ' x)) {o : Op} {r : VRes} (h : vhop P d ρ S o = some (.val r)) : VOk P R S r (hop P ρ' R.H o) := by
 cases o with
 | alloc t =>
  simp only [vhop, Option.bind_eq_some_iff] at h
  obtain ⟨z, hz, h⟩ := h
  split at h
  ·rename_i hf
   cases h
   obtain ⟨R1, h1, h2, h3⟩ := za15 (S := S) (t := t) hr hf
   refine ⟨_, _, R1, ?_, h1, h2, h3⟩
   simp only [hop, hz, Option.bind_some, hf, if_true]
  ·cases h
 | box t x =>
  simp only [vhop] at h
  split at h
  ·cases h
  ·rename_i ht
   rw [Option.map_eq_some_iff] at h
   obtain ⟨r', h, hr'⟩ := h
   cases hr'
   unfold vbox vboxed at h
   by_cases hok : cellsOk S.next false S.next 0 (if foreign S.next 0 (ρ x).cells.toList = [] then (ρ x).cells.toList else (ρ x).cells.toList.map (mapOwn (Abs.thaw (foreign S.next 0 (ρ x).cells.toList)))) = true
   ·rw [if_pos hok] at h
    cases h
    have ht' : isTup (ρ x) = false := by simpa using ht
    obtain ⟨R1, h1, h2, h3⟩ := box_ok hr (t := t) (hρ x) ht' rfl rfl rfl rfl hok
    refine ⟨_, _, R1, ?_, h1, h2, h3⟩
    simp only [hop]
    rw [if_neg (by simp [(hρ x).not_tup ht'])]
   ·rw [if_neg hok] at h; cases h
 | buildSlice t len ps =>
  simp only [vhop, Option.map_eq_some_iff] at h
  obtain ⟨r', h1, h2⟩ := h
  cases h2
  exact za18 hr hρ h1
 | store t a x =>
  simp only [vhop, Option.map_eq_some_iff] at h
  obtain ⟨r', h1, h2⟩ := h
  cases h2
  exact zay3 hr (hρ a) (hρ x) h1
 | convert src dst x =>
  simp only [vhop] at h
  split at h
  ·rename_i e s hs he hx
   split at h
   ·rename_i hu
    split at h
    ·rename_i hz
     cases h
     have hxx := hρ x
     rw [hx] at hxx
     have : hop P ρ' R.H (.convert src dst x) = some (.val (.slice (some ⟨R.H.next, 0, none⟩) s.size 1) (R.H.push (.cells true (slT e) (s.data.toList.map fun b => .int .u8 b.toNat)))) := by
      simp only [hop, hs, zadj he, hxx.inv_string, hu, hz, if_true]
     rw [this]
     exact zat0 hr he hs hu hz
    ·cases h
   ·cases h
  ·cases h
 | call c =>
  simp only [vhop] at h
  split at h
  ·rename_i hc
   split at h
   ·rename_i st xt s x h1 h2
    rw [Option.map_eq_some_iff] at h
    obtain ⟨r', h3, h4⟩ := h
    cases h4
    have := zaxa hr (hρ s) (hρ x) h3
    have e : hop P ρ' R.H (.call c) = (aappend P st xt (ρ' s) (ρ' x) R.H).map fun r => .val r.1 r.2 := by
     simp only [hop, hc, h1, h2]
    rw [e]
    exact this
   ·cases h
  ·split at h
   ·split at h <;> cases h
   ·cases h
  ·cases h
 | _ => simp [vhop] at h
theorem zaxx {d : Nat} {ρ ρ' : Operand → Value} (hρ : ∀ x, Rd R (ρ x) (ρ' x)) {o : Op} {f : FuncId} {args : List Value} (h : vhop P d ρ S o = some (.enter f args)) : ∃ args', hop P ρ' R.H o = some (.enter f args') ∧ RdL R args args' := by
 cases o with
 | call c =>
  simp only [vhop] at h
  split at h
  ·split at h
   ·rw [Option.map_eq_some_iff] at h
    obtain ⟨_, _, h⟩ := h
    cases h
   ·cases h
  ·rename_i fo hc
   split at h
   ·rename_i g first captured hf
    split at h
    ·rename_i hok
     cases h
     obtain ⟨first⟩ := first
     obtain ⟨captured⟩ := captured
     have hff := hρ fo
     rw [hf] at hff
     obtain ⟨x', y', hf', hx, hy⟩ := hff.inv_clo
     refine ⟨x' ++ c.args.toList.map ρ' ++ y', ?_, (hx.append (RdL.map _ fun x _ => hρ x)).append hy⟩
     simp only [hop, hc, hf', hok, if_true]
    ·cases h
   ·cases h
  ·cases h
 | box t x =>
  simp only [vhop] at h
  split at h
  ·cases h
  ·rw [Option.map_eq_some_iff] at h
   obtain ⟨_, _, h⟩ := h
   cases h
 | alloc t =>
  simp only [vhop, Option.bind_eq_some_iff] at h
  obtain ⟨z, hz, h⟩ := h
  split at h <;> cases h
 | buildSlice t len ps =>
  simp only [vhop, Option.map_eq_some_iff] at h
  obtain ⟨_, _, h⟩ := h
  cases h
 | store t a x =>
  simp only [vhop, Option.map_eq_some_iff] at h
  obtain ⟨_, _, h⟩ := h
  cases h
 | convert src dst x =>
  simp only [vhop] at h
  split at h
  ·split at h
   ·split at h <;> cases h
   ·cases h
  ·cases h
 | _ => simp [vhop] at h
end
end Go.Proofs.YtliemjbafgnnbaaGreatDoor.Abs
/- Calls over values with their slices. -/
namespace Go.Proofs.YtliemjbafgnnbaaGreatDoor.Abs
open Go
def setW (B : List Blk) (ws : List (Nat × Blk)) : List Blk := ws.foldl (fun B p => B.set p.1 p.2) B
structure Done (R R' : Rl) (B : List Blk) (ws : List (Nat × Blk)) : Prop where
 hr : HRel R' (setW B ws)
 φ : R'.φ = R.φ
 M : R'.M = R.M
 nx : R.H.next ≤ R'.H.next
 fr : ∀ b, b < R.H.next → (∀ p ∈ ws, R.φ[p.1]? ≠ some b ∧ ∀ o, R.ρ (p.1, some o) ≠ some b) → R'.H.get b = R.H.get b
 keep : ∀ i, (∀ p ∈ ws, p.1 ≠ i) → ∀ o, R'.ρ (i, some o) = R.ρ (i, some o)
 frame : ∀ d, R'.ρ (d, none) = none
 tok : ∀ k b, R'.ρ k = some b → R.ρ k = some b ∨ R.H.next ≤ b
 w : ∀ p ∈ ws, p.1 < B.length
def KOk (P : Program) (X : Outer) (K : VCall) : Prop := ∀ f args B r ws, K f args B = some (r, ws) → ∀ R cargs, HRel R B → (∀ d, R.ρ (d, none) = none) → RdL R args cargs →
 Df P X f cargs R.H fun cr H' => ∃ R' : Rl, R'.H = H' ∧ Done R R' B ws ∧ Rd R' r cr
mutual
theorem okv_le {m n : Nat} (hmn : m ≤ n) {st : Bool} : ∀ v : Value, okv m st v = true → okv n st v = true
 | .func f x y, h => by
  cases f with
  | func i =>
   simp only [okv, Bool.and_eq_true] at h ⊢
   exact ⟨zaqo hmn x h.1, zaqo hmn y h.2⟩
  | _ => exact h
 | .iface t v, h => by simp only [okv] at h ⊢; exact okv_le hmn v h
 | .agg x, h => by simp only [okv] at h ⊢; exact zaqo hmn x h
 | .tuple x, h => by simp only [okv] at h ⊢; exact zaqo hmn x h
 | .bool _, _ => rfl
 | .int .., _ => rfl
 | .float .., _ => rfl
 | .complex .., _ => rfl
 | .string _, _ => rfl
 | .pointer none, _ => rfl
 | .pointer (some a), h => by simp only [okv, decide_eq_true_eq] at h ⊢; omega
 | .slice a k c, h => by cases a <;> cases k <;> cases c <;> first | rfl | exact h
 | .map none, _ => rfl
 | .map (some i), h => by simp only [okv, decide_eq_true_eq] at h ⊢; omega
 | .chan _, h => h
 | .nilFunc, _ => rfl
 | .nilIface, _ => rfl
theorem zaqo {m n : Nat} (hmn : m ≤ n) {st : Bool} : ∀ x : Array Value, okvA m st x = true → okvA n st x = true
 | ⟨x⟩, h => by simp only [okvA] at h ⊢; exact zazz hmn x h
theorem zazz {m n : Nat} (hmn : m ≤ n) {st : Bool} : ∀ x : List Value, okvL m st x = true → okvL n st x = true
 | [], _ => rfl
 | a :: x, h => by
  simp only [okvL, Bool.and_eq_true] at h ⊢
  exact ⟨okv_le hmn a h.1, zazz hmn x h.2⟩
end
section
variable {R R' R1 : Rl} {S : VH} {P : Program} {X : Outer} {K : VCall}
theorem Rd.okc {n : Nat} (hφ : ∀ (i b : Nat), i < n → R.φ[i]? = some b → R'.φ[i]? = some b) {v u : Value} (h : Rd R v u) :
    ∀ st : Bool, (∀ d b, (st = true → d = 0) → R.prot b → R.M d b → R'.prot b ∧ R'.M d b ∧ R'.H.get b = R.H.get b) → okv n st v = true → Rd R' v u := by
 have hget : ∀ (st : Bool) (x : List Value), x.all (okv n st) = true → ∀ i, okv n st (x.getD i Go.undef) = true := by
  intro st x hx i
  rw [List.getD_eq_getElem?_getD]
  cases hi : x[i]? with
  | none => rfl
  | some a => rw [List.all_eq_true] at hx; exact hx a (List.mem_of_getElem? hi)
 have hup : ∀ v : Value, okv 0 true v = true → okv n true v = true := okv_le (Nat.zero_le n)
 induction h with
 | stale i u h => intro st _ ho; cases ho
 | nr => intro st _ _; exact .nr
 | undef u => intro st _ _; exact .undef u
 | scal v h => intro st _ _; exact .scal v h
 | ptr i off b h => intro st _ ho; exact .ptr i off b (hφ i b (by simpa [zaqq] using ho) h)
 | clo f x y x' y' h1 h2 _ _ ih1 ih2 =>
  intro st hp ho
  rw [zau4, Bool.and_eq_true] at ho
  exact .clo f x y x' y' h1 h2 (fun i => ih1 i st hp (hget st x ho.1 i)) (fun i => ih2 i st hp (hget st y ho.2 i))
 | iface t v u _ ih => intro st hp ho; exact .iface t v u (ih st hp (by rwa [zame] at ho))
 | agg x y h1 _ ih => intro st hp ho; rw [zae6] at ho; exact .agg x y h1 fun i => ih i st hp (hget st x ho i)
 | tuple x y h1 _ ih => intro st hp ho; rw [zafb] at ho; exact .tuple x y h1 fun i => ih i st hp (hget st x ho i)
 | ro d sz l b off o el c h0 hp hM hg hl hsz hok _ ih =>
  intro st hh ho
  rw [okv_vs] at ho
  have hd : st = true → d = 0 := by rintro rfl; simpa using ho
  obtain ⟨g1, g2, g3⟩ := hh d b hd hp hM
  refine .ro d sz l b off o el c h0 g1 g2 (by rw [g3, hg]) hl hsz hok fun i => ih i true (fun d b hd => hh d b fun _ => hd rfl) ?_
  have : (cellsL l).all (okv n true) = true := by
   rw [List.all_eq_true]
   intro x hx
   simp only [cellsL, List.mem_flatMap] at hx
   obtain ⟨y, hy, hx⟩ := hx
   rw [zaeo, List.all_eq_true] at hok
   have hy' := hup y (hok y hy)
   cases y with
   | agg z => obtain ⟨z⟩ := z; rw [zae6, List.all_eq_true] at hy'; exact hy' x hx
   | _ => simp only [Value.cells, List.mem_singleton] at hx; subst hx; exact hy'
  exact hget true _ this i
 | roE d sz b off h => intro st _ _; exact .roE d sz b off h
 | own k sz j l b el c => intro st _ ho; cases ho
 | «at» v d b off o el c => intro st _ ho; cases ho
 | atOwn k sz j v b el c => intro st _ ho; cases ho
 | inOwn k v b off el c => intro st _ ho; cases ho
theorem Rd.conv (hφ : ∀ (i b : Nat), R.φ[i]? = some b → R'.φ[i]? = some b) (hp : ∀ d b, R.prot b → R.M d b → R'.prot b ∧ R'.M d b ∧ R'.H.get b = R.H.get b) (hρ : ∀ k b, R.ρ k = some b → R'.ρ k = some b ∧ R'.H.get b = R.H.get b) {v u : Value} (h : Rd R v u) : Rd R' v u := by
 induction h with
 | stale i u h => exact .stale i u h
 | nr => exact .nr
 | undef u => exact .undef u
 | scal v h => exact .scal v h
 | ptr i off b h => exact .ptr i off b (hφ i b h)
 | clo f x y x' y' h1 h2 _ _ ih1 ih2 => exact .clo f x y x' y' h1 h2 ih1 ih2
 | iface t v u _ ih => exact .iface t v u ih
 | agg x y h1 _ ih => exact .agg x y h1 ih
 | tuple x y h1 _ ih => exact .tuple x y h1 ih
 | ro d sz l b off o el c h0 hpp hM hg hl hsz hok _ ih =>
  obtain ⟨g1, g2, g3⟩ := hp d b hpp hM
  exact .ro d sz l b off o el c h0 g1 g2 (by rw [g3, hg]) hl hsz hok ih
 | roE d sz b off h => exact .roE d sz b off h
 | own k sz j l b el c h0 hk hg hl hsz hok _ ih =>
  obtain ⟨g1, g2⟩ := hρ k b hk
  exact .own k sz j l b el c h0 g1 (by rw [g2, hg]) hl hsz hok ih
 | «at» v d b off o el c hpp hM hg hl hok _ ih =>
  obtain ⟨g1, g2, g3⟩ := hp d b hpp hM
  exact .at v d b off o el c g1 g2 (by rw [g3, hg]) hl hok ih
 | atOwn k sz j v b el c h0 hk hg hs hl hok _ ih =>
  obtain ⟨g1, g2⟩ := hρ k b hk
  exact .atOwn k sz j v b el c h0 g1 (by rw [g2, hg]) hs hl hok ih
 | inOwn k v b off el c hk hg hl hok _ ih =>
  obtain ⟨g1, g2⟩ := hρ k b hk
  exact .inOwn k v b off el c g1 (by rw [g2, hg]) hl hok ih
theorem RdL.map_left {f : Value → Value} {x y : List Value} (hf : f Go.undef = Go.undef) (h : x.length = y.length) (hh : ∀ i : Nat, Rd R (f (x.getD i Go.undef)) (y.getD i Go.undef)) : RdL R (x.map f) y :=
 ⟨by simpa using h, fun i => by
  have := hh i
  rw [List.getD_eq_getElem?_getD] at this ⊢
  rw [List.getElem?_map]
  cases hx : x[i]? with
  | none => rw [hx] at this; simp only [Option.getD_none, Option.map_none] at this ⊢; rwa [hf] at this
  | some a => rw [hx] at this; exact this⟩
theorem zaqp {n : Nat} {st : Bool} {x : List Value} (h : okvL n st x = true) (i : Nat) : okv n st (x.getD i undef) = true := by
 rw [zaeo, List.all_eq_true] at h
 rw [List.getD_eq_getElem?_getD]
 cases hi : x[i]? with
 | none => rfl
 | some a => exact h a (List.mem_of_getElem? hi)
theorem still (hr : HRel R S.all) {H' : Hp} (hn : R.H.next ≤ H'.next) (hg : ∀ b, b < R.H.next → H'.get b = R.H.get b) : Nxt R { R with H := H' } S S [] false [] := by
 have hs : Stays R { R with H := H' } := zafq (fun i b hb => hb) (fun b hb => .inl hb) (fun k b h => .inl h) rfl hn fun b hb => hg b hb.1
 have hf : FateOk R { R with H := H' } fun _ => .keep := zah5 hr fun k b h => ⟨h, hg b (hr.sep k b h).2⟩
 exact { hr := { len := hr.len, nodup := hr.nodup, lt := fun b hb => Nat.lt_of_lt_of_le (hr.lt b hb) hn, inj := hr.inj, sep := fun k b h => ⟨(hr.sep k b h).1, Nat.lt_of_lt_of_le (hr.sep k b h).2 hn⟩, fr := fun b hb => hr.fr b (Nat.le_trans hn hb), dom := hr.dom, own := hr.own, blk := fun i b hb => by show BR _ i _ (H'.get b); rw [hg b (hr.lt b (List.mem_of_getElem? hb))]; exact (hr.blk i b hb).same hs hf }, pre := fun i b h => h, M := rfl, nx := hn, eff := fun b hb _ _ => hg b hb, bl := rfl, w1 := fun i hi => hi, w2 := fun i hi => (by cases hi), w3 := fun i hi => .inl hi, keep := fun _ _ _ _ => rfl, tok := fun k b h => .inl h, box := fun i b h => .inl h, rd := fun v u h => h.same hs hf, low := fun h => h, same := fun _ _ _ => rfl }
theorem zaxe (hr : HRel R S.all) (hK : KOk P X K) {f : FuncId} {args cargs : List Value} (ha : RdL R args cargs) (hok : okvL 0 false (mapOwnL (lend true) args) = true) {v : Value} {ws : List (Nat × Blk)} (hk : K f (mapOwnL (lend true) args) [] = some (v, ws)) (hv : okv 0 (!(toksL args).isEmpty) v = true) (hw : ws = []) :
    Df P X f cargs R.H fun cu H' => ∃ R1 : Rl, R1.H = H' ∧ Nxt R R1 S S [] false [] ∧ Rd R1 v cu := by
 subst hw
 -- which blocks may be told
 have main : ∀ (M' : Nat → Nat → Prop), (∀ b, R.H.next ≤ b → M' 0 b) → RdL ⟨[], fun _ => none, M', R.H⟩ (mapOwnL (lend true) args) cargs → (∀ d b, ((!(toksL args).isEmpty) = true → d = 0) → M' d b → R.M d b ∧ b ∉ R.φ ∧ ∀ k, R.ρ k ≠ some b) →
     Df P X f cargs R.H fun cu H' => ∃ R1 : Rl, R1.H = H' ∧ Nxt R R1 S S [] false [] ∧ Rd R1 v cu := by
  intro M' hfr hargs hM
  have hr0 : HRel ⟨[], fun _ => none, M', R.H⟩ [] := { len := rfl, nodup := .nil, lt := fun b hb => (by cases hb), inj := fun k k' b h => (by cases h), sep := fun k b h => (by cases h), fr := hfr, dom := fun i o b h => (by cases h), own := fun k b h => (by cases h), blk := fun i b h => (by simp at h) }
  refine (hK f _ [] v [] hk ⟨[], fun _ => none, M', R.H⟩ cargs hr0 (fun _ => rfl) hargs).mono ?_
  rintro cu H' ⟨R', h1, h2, h3⟩
  subst h1
  have hg : ∀ b, b < R.H.next → R'.H.get b = R.H.get b := fun b hb => h2.fr b hb (by simp)
  refine ⟨{ R with H := R'.H }, rfl, still hr h2.nx hg, ?_⟩
  refine Rd.okc (n := 0) (fun i b hi => (by omega)) h3 _ (fun d b hd hp hMM => ?_) hv
  rw [h2.M] at hMM
  obtain ⟨m1, m2, m3⟩ := hM d b hd hMM
  exact ⟨⟨hp.1, m2, m3⟩, m1, rfl⟩
 by_cases ht : toksL args = []
 ·have hE : (!(toksL args).isEmpty) = false := by rw [ht]; rfl
  have hid : mapOwnL (lend true) args = args := zahn (zab4 _) args ht
  refine main (fun d b => R.M d b ∧ b ∉ R.φ ∧ ∀ k, R.ρ k ≠ some b) (fun b hb => ⟨hr.fr b hb, fun h => by have := hr.lt b h; omega, fun k h => by have := (hr.sep k b h).2; omega⟩) ?_ (fun d b _ h => h)
  rw [hid] at hok ⊢
  refine ⟨ha.1, fun i => Rd.okc (n := 0) (fun i b hi => (by omega)) (ha.2 i) false (fun d b _ hp hM => ⟨⟨hp.1, by simp, by simp⟩, ⟨hM, hp.2.1, hp.2.2⟩, rfl⟩) (zaqp hok i)⟩
 ·have hE : (!(toksL args).isEmpty) = true := by cases h : toksL args <;> simp_all
  refine main (fun d b => d ≠ 0 ∨ (R.M 0 b ∧ b ∉ R.φ ∧ ∀ k, R.ρ k ≠ some b)) (fun b hb => .inr ⟨hr.fr b hb, fun h => by have := hr.lt b h; omega, fun k h => by have := (hr.sep k b h).2; omega⟩) ?_ (fun d b hd h => by
   obtain rfl := hd hE
   rcases h with h | h
   ·exact absurd rfl h
   ·exact h)
  rw [zafd] at hok ⊢
  -- first the names are turned, then the pointers are shown to be none
  refine .map_left rfl ha.1 fun i => ?_
  have h1 : Rd ⟨R.φ, fun _ => none, fun d b => d ≠ 0 ∨ (R.M 0 b ∧ ∀ k, R.ρ k ≠ some b), R.H⟩ (mapOwn (lend true) (args.getD i undef)) (cargs.getD i undef) := by
   refine Rd.fate (R := R) (R' := ⟨R.φ, fun _ => none, fun d b => d ≠ 0 ∨ (R.M 0 b ∧ ∀ k, R.ρ k ≠ some b), R.H⟩) ⟨fun i b h => h, fun b hb => ⟨⟨hb.1, hb.2.1, by simp⟩, rfl⟩, fun d b hb hM => ?_⟩ ⟨fun k b _ h => ?_, fun k b d hk hd => ?_, fun k b k' _ h => ?_⟩ (ha.2 i)
   ·by_cases hd : d = 0
    ·subst hd; exact .inr ⟨hM, hb.2.2⟩
    ·exact .inl hd
   ·simp at h
   ·simp only [Bool.true_or, if_true, Fate.thaw.injEq] at hd
    subst hd
    exact ⟨⟨(hr.sep k b hk).2, (hr.sep k b hk).1, by simp⟩, .inl (by decide), rfl⟩
   ·simp at h
  have hoki : okv 0 false (mapOwn (lend true) (args.getD i undef)) = true := by
   have := zaqp hok i
   rwa [zab8] at this
  refine Rd.okc (n := 0) (fun i b hi => (by omega)) h1 false (fun d b _ hp hM => ⟨⟨hp.1, by simp, by simp⟩, ?_, rfl⟩) hoki
  rcases hM with h | ⟨h, h'⟩
  ·exact .inl h
  ·exact .inr ⟨h, hp.2.1, h'⟩
end
end Go.Proofs.YtliemjbafgnnbaaGreatDoor.Abs
