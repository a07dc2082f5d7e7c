/- Code and calls over values with their slices: the plain evaluator comes to what is told. -/
import Derived.Test.YtliemjbafgnnbaaDoorMW5
set_option maxHeartbeats 0
set_option linter.unnecessarySimpa false
set_option linter.unusedSimpArgs false
set_option linter.unusedVariables false
namespace Go.Proofs.YtliemjbafgnnbaaDoor.Abs
open Go
section
variable {P : Program} {X : Outer} {K : VCall} {n : List Blk} {R0 R R1 Rb : Rl} {S S0 : VH} {e ce es : Env} {ops : Array Oper}
theorem za1z (hK : KOk P X K) {m : Nat} : ∀ (c : Code) (R : Rl) (S : VH) (e ce : Env) (r : Ex × Env × VH), vrunC P K m c e S = some r → VSta n R0 R S e ce →
    Dc P X c ce R.H fun x ce' H' => x = r.1 ∧ ∃ R1 : Rl, R1.H = H' ∧ VSta n R0 R1 r.2.2 r.2.1 ce' := by
 intro c
 induction c with
 | skip => intro R S e ce r h hs; simp only [vrunC] at h; cases h; exact zawt ⟨rfl, R, rfl, hs⟩
 | region id ops draw =>
  intro R S e ce r h hs
  simp only [vrunC, Option.map_eq_some_iff] at h
  obtain ⟨r1, h, rfl⟩ := h
  exact zavy hK hs h
 | seq a b iha ihb =>
  intro R S e ce r h hs
  simp only [vrunC, Option.bind_eq_some_iff] at h
  obtain ⟨⟨x1, e1, S1⟩, h1, h⟩ := h
  refine Dc_seq ((iha R S e ce _ h1 hs).mono ?_)
  rintro x ce' H' ⟨rfl, R1, rfl, hs1⟩
  cases x with
  | normal => exact ihb R1 S1 e1 ce' r h hs1
  | exit id => cases h; exact ⟨rfl, R1, rfl, hs1⟩
  | ret => cases h; exact ⟨rfl, R1, rfl, hs1⟩
 | cond o a b iha ihb =>
  intro R S e ce r h hs
  simp only [vrunC] at h
  split at h
  ·rename_i t ht
   have hh := zahe hs.env o
   rw [ht] at hh
   refine zawp hh.inv_bool (fun h1 => ?_) (fun h2 => ?_)
   ·rw [if_pos h1] at h; exact iha R S e ce r h hs
   ·rw [if_neg (by simp [h2])] at h; exact ihb R S e ce r h hs
  ·cases h
 | block id c ih =>
  intro R S e ce r h hs
  simp only [vrunC, Option.map_eq_some_iff] at h
  obtain ⟨⟨x1, e1, S1⟩, h1, h⟩ := h
  refine zaq5 ((ih R S e ce _ h1 hs).mono ?_)
  rintro x ce' H' ⟨rfl, R1, rfl, hs1⟩
  cases x with
  | normal => cases h; exact ⟨rfl, R1, rfl, hs1⟩
  | ret => cases h; exact ⟨rfl, R1, rfl, hs1⟩
  | exit j =>
   simp only at h ⊢
   split at h
   ·rename_i hj; cases h; rw [if_pos hj]; exact ⟨rfl, R1, rfl, hs1⟩
   ·rename_i hj; cases h; rw [if_neg hj]; exact ⟨rfl, R1, rfl, hs1⟩
 | loop c ih =>
  intro R S e ce r h hs
  simp only [vrunC] at h
  refine zawr (fun k ce H => ∃ R S e, R.H = H ∧ VSta n R0 R S e ce ∧ viter (vrunC P K m c) k e S = some r) m ⟨R, S, e, rfl, hs, h⟩ ?_
  rintro k ce1 H1 ⟨R1, S1, e1, rfl, hs1, h1⟩
  cases k with
  | zero => simp [viter] at h1
  | succ k =>
   simp only [viter, Option.bind_eq_some_iff] at h1
   obtain ⟨⟨x2, e2, S2⟩, h2, h3⟩ := h1
   refine (ih R1 S1 e1 ce1 _ h2 hs1).mono ?_
   rintro x ce' H' ⟨rfl, R2, rfl, hs2⟩
   cases x with
   | normal => exact ⟨k, by omega, R2, S2, e2, rfl, hs2, h3⟩
   | exit id => cases h3; exact ⟨rfl, R2, rfl, hs2⟩
   | ret => cases h3; exact ⟨rfl, R2, rfl, hs2⟩
 | exit id => intro R S e ce r h hs; simp only [vrunC] at h; cases h; exact zawq ⟨rfl, R, rfl, hs⟩
 | ret => intro R S e ce r h hs; simp only [vrunC] at h; cases h; exact Dc_ret ⟨rfl, R, rfl, hs⟩
 | _ => intro R S e ce r h; simp [vrunC] at h
theorem zata (hs : VSta n R0 R S e ce) : ∀ (rs : List ResultVar) (vs : List Value), vresults P e S rs = some vs → ∃ us, aresults P ce R.H rs = some us ∧ RdL R vs us := by
 intro rs
 induction rs with
 | nil => intro vs h; simp only [vresults] at h; cases h; exact ⟨[], rfl, .nil⟩
 | cons r rs ih =>
  intro vs h
  simp only [vresults, Option.bind_eq_some_iff, Option.map_eq_some_iff] at h
  obtain ⟨v, hv, vs1, hvs, rfl⟩ := h
  obtain ⟨us, h1, h2⟩ := ih vs1 hvs
  cases r with
  | tmp t =>
   simp only [vresult] at hv
   cases hv
   exact ⟨eget ce t :: us, by simp only [aresults, aresult, Option.bind_some, h1, Option.map_some], .cons (hs.env t) h2⟩
  | cell a t =>
   simp only [vresult] at hv
   obtain ⟨u, hu, hvu⟩ := zaw8 hs.hr (hs.env a) hv
   exact ⟨u :: us, by simp only [aresults, aresult, hu, Option.bind_some, h1, Option.map_some], .cons hvu h2⟩
theorem za2q {vs us : List Value} (h : RdL R vs us) : Rd R (ret1 vs) (ret1 us) := by
 rcases vs with _ | ⟨v, _ | ⟨v', vs⟩⟩
 ·have : us = [] := by have := h.1; simpa using this.symm
  subst this
  exact .tuple [] [] rfl (fun i => by simp; exact .undef _)
 ·obtain ⟨u, rfl⟩ : ∃ u, us = [u] := by
   have := h.1
   rcases us with _ | ⟨u, _ | ⟨_, _⟩⟩
   ·simp at this
   ·exact ⟨u, rfl⟩
   ·simp at this
  exact h.head
 ·have hl := h.1
  rcases us with _ | ⟨u, _ | ⟨u', us⟩⟩
  ·simp at hl
  ·simp at hl
  ·exact .tuple _ _ h.1 h.2
theorem rd_low {v u : Value} (h : Rd R v u) : lowv R.φ.length v = true := by
 have getx : ∀ x : List Value, (∀ i : Nat, lowv R.φ.length (x.getD i undef) = true) → x.all (lowv R.φ.length) = true := by
  intro x hx
  rw [List.all_eq_true]
  intro y hy
  obtain ⟨i, hi⟩ := List.getElem?_of_mem hy
  have := hx i
  rwa [List.getD_eq_getElem?_getD, hi] at this
 induction h with
 | ptr i off b h => simp only [lowv, decide_eq_true_eq]; exact (List.getElem?_eq_some_iff.1 h).1
 | clo f x y x' y' h1 h2 _ _ ih1 ih2 => simp only [lowv, lowvA, zagw, getx x ih1, getx y ih2, Bool.and_self]
 | iface t v u _ ih => simp only [lowv]; exact ih
 | agg x y h1 _ ih => simp only [lowv, lowvA, zagw]; exact getx x ih
 | tuple x y h1 _ ih => simp only [lowv, lowvA, zagw]; exact getx x ih
 | scal v h => cases v <;> first | rfl | (rename_i a; cases a <;> first | rfl | (simp [isScal] at h))
 | _ => rfl
theorem Rd.lowc {m : Nat} (hφ : ∀ (i b : Nat), i < m → R.φ[i]? = some b → R1.φ[i]? = some b) (hp : ∀ d b, R.prot b → R.M d b → R1.prot b ∧ R1.M d b ∧ R1.H.get b = R.H.get b) {v u : Value} (h : Rd R v u) :
    lowv m v = true → (∀ k ∈ toks v, ∀ b, R.ρ k = some b → R1.ρ k = some b ∧ R1.H.get b = R.H.get b) → Rd R1 v u := by
 have gl : ∀ x : List Value, x.all (lowv m) = true → ∀ i : Nat, lowv m (x.getD i Go.undef) = true := by
  intro x hx i
  rw [List.getD_eq_getElem?_getD]
  cases hi : x[i]? with
  | none => rfl
  | some a => rw [List.all_eq_true] at hx; exact hx a (List.mem_of_getElem? hi)
 have gt : ∀ (x : List Value) (i : Nat) k, k ∈ toks (x.getD i Go.undef) → k ∈ x.flatMap toks := by
  intro x i k hk
  rw [List.getD_eq_getElem?_getD] at hk
  cases hi : x[i]? with
  | none => rw [hi] at hk; cases hk
  | some a => rw [hi] at hk; exact List.mem_flatMap.2 ⟨a, List.mem_of_getElem? hi, hk⟩
 have gc : ∀ x : List Value, x.all (okv 0 true) = true → ∀ i : Nat, lowv m (x.getD i Go.undef) = true := by
  intro x hx i
  rw [List.getD_eq_getElem?_getD]
  cases hi : x[i]? with
  | none => rfl
  | some a => rw [List.all_eq_true] at hx; exact zaix a (okv_le (Nat.zero_le m) a (hx a (List.mem_of_getElem? hi)))
 have gcell : ∀ y : Value, okv 0 true y = true → y.cells.toList.all (okv 0 true) = true := by
  intro y hy
  cases y with
  | agg z => obtain ⟨z⟩ := z; rw [zae1] at hy; exact hy
  | _ => simpa [Value.cells] using hy
 have gcells : ∀ l : List Value, okvL 0 true l = true → (cellsL l).all (okv 0 true) = true := by
  intro l hl
  rw [zade, List.all_eq_true] at hl
  rw [List.all_eq_true]
  intro x hx
  simp only [cellsL, List.mem_flatMap] at hx
  obtain ⟨y, hy, hx⟩ := hx
  have := gcell y (hl y hy)
  rw [List.all_eq_true] at this
  exact this x hx
 induction h with
 | stale i u h => intro _ _; exact .stale i u h
 | nr => intro _ _; exact .nr
 | undef u => intro _ _; exact .undef u
 | scal v h => intro _ _; exact .scal v h
 | ptr i off b h => intro hl _; exact .ptr i off b (hφ i b (by simpa [lowv] using hl) h)
 | clo f x y x' y' h1 h2 _ _ ih1 ih2 =>
  intro hl ht
  simp only [lowv, lowvA, zagw, Bool.and_eq_true] at hl
  rw [zajb] at ht
  exact .clo f x y x' y' h1 h2 (fun i => ih1 i (gl x hl.1 i) fun k hk => ht k (List.mem_append_left _ (gt x i k hk))) (fun i => ih2 i (gl y hl.2 i) fun k hk => ht k (List.mem_append_right _ (gt y i k hk)))
 | iface t v u _ ih => intro hl ht; exact .iface t v u (ih (by simpa only [lowv] using hl) (by rwa [zae8] at ht))
 | agg x y h1 _ ih =>
  intro hl ht
  simp only [lowv, lowvA, zagw] at hl
  rw [zaf5] at ht
  exact .agg x y h1 fun i => ih i (gl x hl i) fun k hk => ht k (gt x i k hk)
 | tuple x y h1 _ ih =>
  intro hl ht
  simp only [lowv, lowvA, zagw] at hl
  rw [zaf6] at ht
  exact .tuple x y h1 fun i => ih i (gl x hl i) fun k hk => ht k (gt x i k hk)
 | ro d sz l b off o el c h0 hpp hM hg hl hsz hok _ ih =>
  intro _ _
  obtain ⟨g1, g2, g3⟩ := hp d b hpp hM
  exact .ro d sz l b off o el c h0 g1 g2 (by rw [g3, hg]) hl hsz hok fun i => ih i (gc _ (gcells l hok) i) fun k hk => by rw [zaaz (zadj hok) i] at hk; cases hk
 | roE d sz b off h => intro _ _; exact .roE d sz b off h
 | mp es es' b hpp hM hg hk hok _ ih =>
  intro _ _
  obtain ⟨g1, g2, g3⟩ := hp 0 b hpp hM
  refine .mp es es' b g1 g2 (by rw [g3, hg]) hk hok fun i => ih i (gc _ (by rw [← zade]; exact hok) i) fun k hk => by rw [zaaz (by rw [← zacx]; exact zahk _ hok) i] at hk; cases hk
 | own k sz j l b el c h0 hk hg hl hsz hok _ ih =>
  intro _ ht
  obtain ⟨g1, g2⟩ := ht k (by rw [zah2]; simp) b hk
  exact .own k sz j l b el c h0 g1 (by rw [g2, hg]) hl hsz hok fun i => ih i (gc _ (gcells l hok) i) fun k hk => by rw [zaaz (zadj hok) i] at hk; cases hk
 | «at» v d b off o el c hpp hM hg hl hok _ ih =>
  intro _ _
  obtain ⟨g1, g2, g3⟩ := hp d b hpp hM
  exact .at v d b off o el c g1 g2 (by rw [g3, hg]) hl hok fun i => ih i (gc _ (gcell v hok) i) fun k hk => by rw [zaaz (zada hok) i] at hk; cases hk
 | atOwn k sz j v b el c h0 hk hg hs hl hok _ ih =>
  intro _ ht
  obtain ⟨g1, g2⟩ := ht k (by rw [zats]; simp) b hk
  exact .atOwn k sz j v b el c h0 g1 (by rw [g2, hg]) hs hl hok fun i => ih i (gc _ (gcell v hok) i) fun k hk => by rw [zaaz (zada hok) i] at hk; cases hk
 | inOwn k v b off el c hk hg hl hok _ ih =>
  intro _ ht
  obtain ⟨g1, g2⟩ := ht k (by rw [zatt]; simp) b hk
  exact .inOwn k v b off el c g1 (by rw [g2, hg]) hl hok fun i => ih i (gc _ (gcell v hok) i) fun k hk => by rw [zaaz (zada hok) i] at hk; cases hk
theorem zaqm {B C : List Blk} (hl : B.length = C.length) : ∀ (w : List Nat), (∀ i, i < B.length → i ∉ w → C[i]? = B[i]?) → (∀ i ∈ w, i < B.length) → setW B (w.map fun i => (i, C.getD i .dead)) = C := by
 intro w hsame hlt
 apply List.ext_getElem?
 intro i
 by_cases hi : i ∈ w
 ·rcases zate (w.map fun i => (i, C.getD i .dead)) B i with ⟨p, hp, h1, h2⟩ | h
  ·obtain ⟨j, hj, rfl⟩ := List.mem_map.1 hp
   simp only at h1
   subst h1
   rw [h2, List.getElem?_set, if_pos rfl, if_pos (hlt _ hj)]
   have : j < C.length := by rw [← hl]; exact hlt _ hj
   simp [List.getD_eq_getElem?_getD, List.getElem?_eq_getElem this]
  ·exact absurd rfl (h (i, C.getD i .dead) (List.mem_map.2 ⟨i, hi, rfl⟩))
 ·rw [zae5 _ _ _ (by
   intro p hp
   obtain ⟨j, hj, rfl⟩ := List.mem_map.1 hp
   rintro rfl
   exact hi hj)]
  by_cases hib : i < B.length
  ·exact (hsame i hib hi).symm
  ·rw [List.getElem?_eq_none (by omega), List.getElem?_eq_none (by omega)]
theorem zava (hr0 : HRel R0 n) (hs : VSta n R0 R S e ce) {fn : Func} {x : Ex} {v : Value} {ws : List (Nat × Blk)} (h : vfinish P fn (x, e, S) = some (v, ws)) :
    ∃ cv, finish P fn (x, ce, R.H) = some (cv, R.H) ∧ ∃ R' : Rl, R'.H = R.H ∧ Done R0 R' n ws ∧ Rd R' v cv := by
 have hx : ∃ vs, vresults P e S fn.results.toList = some vs ∧ vtell (ret1 vs) S = some (v, ws) ∧ ∀ us, aresults P ce R.H fn.results.toList = some us → finish P fn (x, ce, R.H) = some (ret1 us, R.H) := by
  unfold vfinish at h
  cases x with
  | exit id => cases h
  | normal =>
   simp only [Option.bind_eq_some_iff] at h
   obtain ⟨vs, h1, h2⟩ := h
   exact ⟨vs, h1, h2, fun us hu => by simp only [finish, hu, Option.map_some]⟩
  | ret =>
   simp only [Option.bind_eq_some_iff] at h
   obtain ⟨vs, h1, h2⟩ := h
   exact ⟨vs, h1, h2, fun us hu => by simp only [finish, hu, Option.map_some]⟩
 obtain ⟨vs, h1, h2, h3⟩ := hx
 obtain ⟨us, h4, h5⟩ := zata hs _ _ h1
 refine ⟨ret1 us, h3 us h4, ?_⟩
 have hv := za2q h5
 unfold vtell at h2
 split at h2
 ·rename_i hok
  cases h2
  generalize ret1 vs = v0 at hv hok ⊢
  rw [hs.bn] at hok
  have t1 := zagj hs.hr (toks v0) (zamn hs.hr hv)
  have hs1 := hs.next t1
  have hv1 : Rd (R.less (toks v0)) (mapOwn thawAll v0) (ret1 us) := by
   have := t1.rd _ _ hv
   simp only [turns, List.foldl_cons, List.foldl_nil] at this
   rwa [zai9 (ks := toks v0) fun k hk => hk]
  generalize hR1 : R.less (toks v0) = Q at t1 hs1 hv1
  have hQH : Q.H = R.H := by rw [← hR1]; rfl
  generalize S.thaw (toks v0) = S1 at t1 hs1
  have hφ0 : ∀ (i b : Nat), i < n.length → Q.φ[i]? = some b → R0.φ[i]? = some b := fun i b hi hb => by
   have hl : i < R0.φ.length := by rw [hs1.bn0]; exact hi
   have := hs1.pre i _ (List.getElem?_eq_getElem hl)
   rw [hb] at this
   cases this
   exact List.getElem?_eq_getElem hl
  have hφm : ∀ b, b ∈ R0.φ → b ∈ Q.φ := fun b hb => by
   obtain ⟨i, hi⟩ := List.getElem?_of_mem hb
   exact List.mem_of_getElem? (hs1.pre i b hi)
  have hρ0 : ∀ k b, (if k.2 ≠ none ∧ k.1 < n.length then Q.ρ k else none) = some b → Q.ρ k = some b ∧ k.2 ≠ none ∧ k.1 < n.length := fun k b h => by
   split at h
   ·rename_i hh; exact ⟨h, hh.1, hh.2⟩
   ·cases h
  have hprot : ∀ d b, Q.prot b → Q.M d b → (⟨R0.φ, fun k => if k.2 ≠ none ∧ k.1 < n.length then Q.ρ k else none, R0.M, Q.H⟩ : Rl).prot b ∧ R0.M d b ∧ Q.H.get b = Q.H.get b := fun d b hp hM =>
   ⟨⟨hp.1, fun hb => hp.2.1 (hφm b hb), fun k hk => hp.2.2 k (hρ0 k b hk).1⟩, by rw [← hs1.M]; exact hM, rfl⟩
  have hwr : setW n S1.writes = S1.base := by
   unfold VH.writes
   refine zaqm hs1.bn.symm S1.w (fun i hi hw => ?_) hs1.w
   have := hs1.same i hi hw
   rw [← this, VH.all, List.getElem?_append_left (by rw [hs1.bn]; exact hi)]
  refine ⟨⟨R0.φ, fun k => if k.2 ≠ none ∧ k.1 < n.length then Q.ρ k else none, R0.M, Q.H⟩, hQH, ?_, ?_⟩
  ·refine { hr := ?_, φ := rfl, M := rfl, nx := hs1.nx, fr := ?_, keep := ?_, frame := fun d => by simp, tok := ?_, w := ?_ }
   ·rw [hwr]
    refine { len := by rw [hs1.bn]; exact hs1.bn0, nodup := hr0.nodup, lt := fun b hb => Nat.lt_of_lt_of_le (hr0.lt b hb) hs1.nx, inj := fun k k' b e1 e2 => hs1.hr.inj k k' b (hρ0 k b e1).1 (hρ0 k' b e2).1, sep := fun k b e1 => ⟨fun hb => (hs1.hr.sep k b (hρ0 k b e1).1).1 (hφm b hb), (hs1.hr.sep k b (hρ0 k b e1).1).2⟩, fr := fun b hb => hr0.fr b (Nat.le_trans hs1.nx hb), dom := fun i o b e1 => by rw [hs1.bn0]; exact (hρ0 _ b e1).2.2, own := fun k b e1 => (hs1.M ▸ hs1.hr.own k b (hρ0 k b e1).1 : R0.M 0 b), blk := ?_ }
    intro i b hb
    have hi : i < n.length := by rw [← hs1.bn0]; exact (List.getElem?_eq_some_iff.1 hb).1
    have hB := hs1.hr.blk i b (hs1.pre i b hb)
    have hlow := hs1.low i hi
    have hgd : S1.all.getD i .dead = S1.base.getD i .dead := by
     rw [VH.all, List.getD_eq_getElem?_getD, List.getElem?_append_left (by rw [hs1.bn]; exact hi), ← List.getD_eq_getElem?_getD]
    rw [hgd] at hB hlow
    show BR _ i _ (Q.H.get b)
    generalize S1.base.getD i .dead = B at hB hlow
    cases B with
    | cells o el c =>
     obtain ⟨b1, c', b2, b3, b4⟩ := hB
     refine ⟨b1, c', b2, .of_forall b3.1 fun j x u hx hu => ?_, b4⟩
     obtain ⟨u', hu', hxu⟩ := b3.get? hx
     rw [hu] at hu'
     cases hu'
     refine Rd.lowc (R := Q) (R1 := ⟨R0.φ, fun k => if k.2 ≠ none ∧ k.1 < n.length then Q.ρ k else none, R0.M, Q.H⟩) (m := n.length) hφ0 hprot hxu (hlow x (List.mem_of_getElem? hx)) fun k hk b' hb' => ?_
     rcases b4 j x hx with h | h
     ·rw [h] at hk; cases hk
     ·rw [zadk h, List.mem_singleton] at hk
      subst hk
      exact ⟨by simp only; rw [if_pos ⟨by simp, hi⟩]; exact hb', rfl⟩
    | _ => trivial
   ·intro b hb hw
    refine hs1.fr b hb fun i hi => ?_
    exact hw (i, S1.base.getD i .dead) (List.mem_map.2 ⟨i, hi, rfl⟩)
   ·intro i hw o
    have hi : i ∉ S1.w := fun h => hw (i, S1.base.getD i .dead) (List.mem_map.2 ⟨i, h, rfl⟩) rfl
    simp only
    by_cases hin : i < n.length
    ·rw [if_pos ⟨by simp, hin⟩]
     exact hs1.keep i hin hi o
    ·rw [if_neg (fun h => hin h.2)]
     cases hh : R0.ρ (i, some o) with
     | none => rfl
     | some b => exact absurd (hs1.hr0 i o b hh) hin
   ·intro k b e1
    exact hs1.tok k b (hρ0 k b e1).1
   ·intro p hp
    obtain ⟨i, hi, rfl⟩ := List.mem_map.1 hp
    exact hs1.w i hi
  ·exact Rd.okc (R := Q) (R' := ⟨R0.φ, fun k => if k.2 ≠ none ∧ k.1 < n.length then Q.ρ k else none, R0.M, Q.H⟩) (n := n.length) hφ0 hv1 false (fun d b _ hp hM => hprot d b hp hM) hok
 ·cases h2
def VXOk (P : Program) (X : Outer) (XV : VOuter) : Prop := ∀ f, match XV f with
 | none => X f = none
 | some g => ∀ args B r ws, g args B = some (r, ws) → ∀ R cargs, HRel R B → (∀ d, R.ρ (d, none) = none) → RdL R args cargs → Df P X f cargs R.H fun cr H' => ∃ R' : Rl, R'.H = H' ∧ Done R R' B ws ∧ Rd R' r cr
theorem za0t {B : List Blk} {R : Rl} {args cargs : List Value} (hr : HRel R B) (hf : ∀ d, R.ρ (d, none) = none) (ha : RdL R args cargs) : VSta B R R ⟨B, [], []⟩ args cargs where
 hr := by simpa [VH.all] using hr
 bn := rfl
 bn0 := hr.len
 hr0 := fun i o b h => by rw [← hr.len]; exact hr.dom i o b h
 fr0 := hf
 pre := fun i b h => h
 M := rfl
 nx := Nat.le_refl _
 fr := fun b _ _ => rfl
 keep := fun i _ _ o => rfl
 tok := fun k b h => .inl h
 box := fun i b hi h => by
  have := (List.getElem?_eq_some_iff.1 h).1
  rw [hr.len] at this
  omega
 w := fun i h => by cases h
 low := by
  intro i hi x hx
  simp only [VH.all, List.append_nil] at hx
  have hil : i < R.φ.length := by rw [hr.len]; exact hi
  have hB := hr.blk i _ (List.getElem?_eq_getElem hil)
  generalize B.getD i .dead = C at hx hB
  cases C with
  | cells o e c =>
   obtain ⟨_, c', _, h3, _⟩ := hB
   obtain ⟨j, hj⟩ := List.getElem?_of_mem hx
   obtain ⟨u, _, hu⟩ := h3.get? hj
   have := rd_low hu
   rwa [hr.len] at this
  | _ => cases hx
 same := fun i hi _ => by simp [VH.all]
 env := fun t => ha.2 t
theorem run_ok {XV : VOuter} (hX : VXOk P X XV) : ∀ m, KOk P X (vrun P XV m) := by
 intro m
 induction m with
 | zero => intro f args B r ws h; simp [vrun] at h
 | succ m ih =>
  intro f args B r ws h R cargs hr hf ha
  simp only [vrun] at h
  have hXf := hX f
  cases hx : XV f with
  | some g => rw [hx] at h hXf; exact hXf args B r ws h R cargs hr hf ha
  | none =>
   rw [hx] at h hXf
   simp only at h hXf
   cases hfn : P.funcs[f]? with
   | none => rw [hfn] at h; cases h
   | some fn =>
    rw [hfn] at h
    simp only at h
    cases hb : fn.body with
    | none => rw [hb] at h; cases h
    | some c =>
     rw [hb] at h
     simp only at h
     split at h
     ·rename_i hd
      rw [Option.bind_eq_some_iff] at h
      obtain ⟨⟨x, e, S⟩, h1, h2⟩ := h
      refine zawu hXf hfn hb hd.1 (by rw [← ha.1]; exact hd.2) ((za1z ih c R ⟨B, [], []⟩ args cargs _ h1 (za0t hr hf ha)).mono ?_)
      rintro x' ce' H' ⟨rfl, R1, rfl, hs⟩
      obtain ⟨cv, g1, R', g2, g3, g4⟩ := zava (P := P) hr hs h2
      rw [g1]
      exact ⟨R', g2, g3, g4⟩
     ·cases h
end
end Go.Proofs.YtliemjbafgnnbaaDoor.Abs
/- How a call's answer is shown step by step, over values with their slices: rules, the fuel hidden. -/
namespace Go.Proofs.YtliemjbafgnnbaaDoor.Abs
open Go
def VCall.le (K K' : VCall) : Prop := ∀ f a B r, K f a B = some r → K' f a B = some r
section
variable {P : Program} {K K' : VCall}
theorem zatz (h : K.le K') {f : FuncId} {args : List Value} {S : VH} {r : VRes} (hr : vcall K f args S = some r) : vcall K' f args S = some r := by
 unfold vcall at hr ⊢
 split at hr
 ·rename_i hc
  rw [if_pos hc]
  rw [Option.bind_eq_some_iff] at hr ⊢
  obtain ⟨x, hx, hr⟩ := hr
  exact ⟨x, h _ _ _ _ hx, hr⟩
 ·rename_i hc
  rw [if_neg hc]
  rw [Option.bind_eq_some_iff] at hr ⊢
  obtain ⟨x, hx, hr⟩ := hr
  exact ⟨x, h _ _ _ _ hx, hr⟩
theorem zanv (h : K.le K') {o : Oper} {e : Env} {S : VH} {r : VRes} (hr : vstepOp P K o e S = some r) : vstepOp P K' o e S = some r := by
 unfold vstepOp at hr ⊢
 split at hr
 ·rename_i hl; rw [if_pos hl]; exact hr
 ·rename_i hl
  rw [if_neg hl]
  rw [Option.bind_eq_some_iff] at hr ⊢
  obtain ⟨x, hx, hr⟩ := hr
  refine ⟨x, hx, ?_⟩
  cases x with
  | val r => exact hr
  | enter f args => exact zatz h hr
theorem zagm (h : K.le K') {ops : Array Oper} {o : Oper} {e : Env} {S : VH} {r : VStepped} (hr : vstepG P K ops o e S = some r) : vstepG P K' ops o e S = some r := by
 unfold vstepG at hr ⊢
 rw [Option.bind_eq_some_iff] at hr ⊢
 obtain ⟨t, ht, hr⟩ := hr
 refine ⟨t, ht, ?_⟩
 cases t with
 | false => exact hr
 | true =>
  simp only [if_true, Option.map_eq_some_iff] at hr ⊢
  obtain ⟨x, hx, e⟩ := hr
  exact ⟨x, zanv h hx, e⟩
theorem zajk (h : K.le K') {ops : Array Oper} : ∀ (l : List Oper) (e : Env) (S : VH) (r : Env × VH), vrunL P K ops l e S = some r → vrunL P K' ops l e S = some r
 | [], _, _, _, hr => hr
 | o :: l, e, S, r, hr => by
  simp only [vrunL, Option.bind_eq_some_iff] at hr ⊢
  obtain ⟨x, hx, hr⟩ := hr
  exact ⟨x, zagm h hx, zajk h l _ _ r hr⟩
theorem zahr (h : K.le K') {ops : Array Oper} {sd : Bool} {S0 : VH} : ∀ (l : List Oper) (T : List (List Nat)) (es e : Env) (S : VH) (Hs : List (List Nat × Bool)) (ob : List VObl) (r : Env × VH), vrunE P K ops sd S0 T l es e S Hs ob = some r → vrunE P K' ops sd S0 T l es e S Hs ob = some r
 | [], T, es, e, S, Hs, ob, r, hr => by cases T <;> exact hr
 | o :: l, [], es, e, S, Hs, ob, r, hr => by simp [vrunE] at hr
 | o :: l, t :: T, es, e, S, Hs, ob, r, hr => by
  simp only [vrunE, Option.bind_eq_some_iff] at hr ⊢
  obtain ⟨w, hw, nb, hnb, x, hx, hr⟩ := hr
  exact ⟨w, hw, nb, hnb, x, zagm h hx, zahr h l T _ _ _ _ _ r hr⟩
theorem zaub (h : K.le K') {ops : Array Oper} {draw : Bool} {e : Env} {S : VH} {r : Env × VH} (hr : vrunR P K ops draw e S = some r) : vrunR P K' ops draw e S = some r := by
 unfold vrunR at hr ⊢
 split at hr
 ·rename_i hd
  rw [if_pos hd]
  split at hr
  ·rename_i hd2; rw [if_pos hd2]; exact zahr h _ _ _ _ _ _ _ _ hr
  ·rename_i hd2
   rw [if_neg hd2]
   split at hr
   ·rename_i hd3; rw [if_pos hd3]; exact zahr h _ _ _ _ _ _ _ _ hr
   ·cases hr
 ·rename_i hd
  rw [if_neg hd]
  exact zajk h _ _ _ _ hr
theorem zaho {g g' : Env → VH → Option (Ex × Env × VH)} (h : ∀ e H r, g e H = some r → g' e H = some r) : ∀ (n n' : Nat), n ≤ n' → ∀ e H r, viter g n e H = some r → viter g' n' e H = some r
 | 0, _, _, _, _, _, hr => by simp [viter] at hr
 | n + 1, 0, hn, _, _, _, _ => by omega
 | n + 1, n' + 1, hn, e, H, r, hr => by
  simp only [viter, Option.bind_eq_some_iff] at hr ⊢
  obtain ⟨x, hx, hr⟩ := hr
  refine ⟨x, h _ _ _ hx, ?_⟩
  split at hr
  ·exact zaho h n n' (by omega) _ _ _ hr
  ·exact hr
theorem zaco (h : K.le K') {n n' : Nat} (hn : n ≤ n') : ∀ (c : Code) (e : Env) (H : VH) (r : Ex × Env × VH), vrunC P K n c e H = some r → vrunC P K' n' c e H = some r := by
 intro c
 induction c with
 | region id ops draw =>
  intro e H r hr
  simp only [vrunC, Option.map_eq_some_iff] at hr ⊢
  obtain ⟨x, hx, hr⟩ := hr
  exact ⟨x, zaub h hx, hr⟩
 | seq a b iha ihb =>
  intro e H r hr
  simp only [vrunC, Option.bind_eq_some_iff] at hr ⊢
  obtain ⟨x, hx, hr⟩ := hr
  refine ⟨x, iha _ _ _ hx, ?_⟩
  split at hr
  ·exact ihb _ _ _ hr
  ·exact hr
 | cond o a b iha ihb =>
  intro e H r hr
  simp only [vrunC] at hr ⊢
  split at hr
  ·rename_i t ht
   cases t with
   | true => exact iha _ _ _ hr
   | false => exact ihb _ _ _ hr
  ·cases hr
 | block id c ih =>
  intro e H r hr
  simp only [vrunC, Option.map_eq_some_iff] at hr ⊢
  obtain ⟨x, hx, hr⟩ := hr
  exact ⟨x, ih _ _ _ hx, hr⟩
 | loop c ih =>
  intro e H r hr
  simp only [vrunC] at hr ⊢
  exact zaho ih n n' hn _ _ _ hr
 | skip => intro e H r hr; simpa [vrunC] using hr
 | exit id => intro e H r hr; simpa [vrunC] using hr
 | ret => intro e H r hr; simpa [vrunC] using hr
 | _ => intro e H r hr; simp [vrunC] at hr
theorem zabm {X : VOuter} : ∀ (n n' : Nat), n ≤ n' → VCall.le (vrun P X n) (vrun P X n')
 | 0, _, _ => fun f a H r hr => by simp [vrun] at hr
 | n + 1, 0, hn => by omega
 | n + 1, n' + 1, hn => fun f a H r hr => by
  have ih := zabm (X := X) n n' (by omega)
  simp only [vrun] at hr ⊢
  split at hr
  ·exact hr
  ·split at hr
   ·cases hr
   ·split at hr
    ·cases hr
    ·split at hr
     ·rename_i hok
      rw [if_pos hok]
      simp only [Option.bind_eq_some_iff] at hr ⊢
      obtain ⟨x, hx, hr⟩ := hr
      exact ⟨x, zaco ih (by omega) _ _ _ _ hx, hr⟩
     ·cases hr
end
section
variable (P : Program) (X : VOuter)
def Vf (f : FuncId) (args : List Value) (B : List Blk) (Q : Value → List (Nat × Blk) → Prop) : Prop := ∃ n r, vrun P X n f args B = some r ∧ Q r.1 r.2
def Vc (c : Code) (e : Env) (S : VH) (Q : Ex → Env → VH → Prop) : Prop := ∃ n r, vrunC P (vrun P X n) n c e S = some r ∧ Q r.1 r.2.1 r.2.2
abbrev VCont := Value → List Turn → VH → List Nat → Bool → Prop
def Vcallee (f : FuncId) (args : List Value) (S : VH) (Q : VCont) : Prop :=
 if okvL 0 false (mapOwnL (lend true) args) = true then Vf P X f (mapOwnL (lend true) args) [] fun v ws => (okv 0 (!(toksL args).isEmpty) v = true ∧ ws = []) ∧ Q v [] S [] false
 else Vf P X f (mapOwnL (lend false) args) S.all fun v ws => (((toksL args).all (fun k => k.2.isSome) = true ∨ (okv S.next true v = true ∧ ws = [])) ∧ ws.all (lowW S.base.length) = true) ∧
  Q v (if ws = [] then [] else [dropBoxes (ws.map (·.1))]) (S.puts ws) (ws.map (·.1)) false
def VStp (ops : Array Oper) (o : Oper) (e : Env) (S : VH) (Q : VCont) : Prop := match awanted ops o e with
 | none => False
 | some false => Q NR [] S [] false
 | some true => if light P o.op then With (vlop P (aeval e) S o.op) fun v => Q v [] S [] false
  else match vhop P (dname o) (aeval e) S o.op with
   | none => False
   | some (.val r) => Q r.v r.g r.S r.ws r.kf
   | some (.enter f args) => Vcallee P X f args S Q
def VReg (ops : Array Oper) : List Oper → Env → VH → (Env → VH → Prop) → Prop
 | [], e, S, Q => Q e S
 | o :: rest, e, S, Q => VStp P X ops o e S fun v g S' _ _ => VReg ops rest (eput (emap g e) o.dst v) S' Q
def VE (ops : Array Oper) (sd : Bool) (S0 : VH) : List (List Nat) → List Oper → Env → Env → VH → List (List Nat × Bool) → List VObl → (Env → VH → Prop) → Prop
 | _, [], es, e, S, Hs, ob, Q => ob.all (vspan Hs.reverse) = true ∧ Q e S
 | t :: T, o :: rest, es, e, S, Hs, ob, Q => With (awanted ops o e) fun w =>
     With (if t = [] then some [] else if w = false then some [⟨t, Hs.length, .ro⟩] else vobl o t Hs.length (sd && !isGone (vshade P { o with guard := none } es S0 Hs)) e) fun nb =>
     VStp P X ops o e S fun v g S' ws kf => VE ops sd S0 T rest (if sd then eput es o.dst (vshade P o es S0 Hs) else es) (eput (emap g e) o.dst v) S' (if light P o.op then Hs else (ws, kf) :: Hs) (nb ++ ob) Q
 | [], _ :: _, _, _, _, _, _, _ => False
end
section
variable {P : Program} {X : VOuter}
theorem Vf.mono {f : FuncId} {args : List Value} {B : List Blk} {Q Q' : Value → List (Nat × Blk) → Prop} (h : Vf P X f args B Q) (hq : ∀ v w, Q v w → Q' v w) : Vf P X f args B Q' := by
 obtain ⟨n, r, h1, h2⟩ := h
 exact ⟨n, r, h1, hq _ _ h2⟩
theorem Vc.mono {c : Code} {e : Env} {S : VH} {Q Q' : Ex → Env → VH → Prop} (h : Vc P X c e S Q) (hq : ∀ x e S, Q x e S → Q' x e S) : Vc P X c e S Q' := by
 obtain ⟨n, r, h1, h2⟩ := h
 exact ⟨n, r, h1, hq _ _ _ h2⟩
theorem zaqw {f : FuncId} {args : List Value} {S : VH} {Q : VCont} (h : Vcallee P X f args S Q) : ∃ n r, vcall (vrun P X n) f args S = some r ∧ Q r.v r.g r.S r.ws r.kf := by
 unfold Vcallee at h
 split at h
 ·rename_i hc
  obtain ⟨n, r, h1, h2, h3⟩ := h
  refine ⟨n, ⟨r.1, [], S, [], false⟩, ?_, h3⟩
  unfold vcall
  rw [if_pos hc, h1]
  simp only [Option.bind_some]
  rw [if_pos h2]
 ·rename_i hc
  obtain ⟨n, r, h1, h2, h3⟩ := h
  refine ⟨n, ⟨r.1, if r.2 = [] then [] else [dropBoxes (r.2.map (·.1))], S.puts r.2, r.2.map (·.1), false⟩, ?_, h3⟩
  unfold vcall
  rw [if_neg hc]
  rw [VH.all] at h1
  rw [h1]
  simp only [Option.bind_some]
  rw [if_pos h2]
theorem zauc {ops : Array Oper} {o : Oper} {e : Env} {S : VH} {Q : VCont} (h : VStp P X ops o e S Q) : ∃ n r v g, vstepG P (vrun P X n) ops o e S = some r ∧ r.e = eput (emap g e) o.dst v ∧ Q v g r.S r.ws r.kf := by
 unfold VStp at h
 split at h
 ·exact h.elim
 ·rename_i hw
  exact ⟨0, ⟨eput e o.dst NR, S, [], false⟩, NR, [], by simp [vstepG, hw], rfl, h⟩
 ·rename_i hw
  split at h
  ·rename_i hl
   cases hv : vlop P (aeval e) S o.op with
   | none => rw [hv] at h; exact h.elim
   | some v =>
    rw [hv] at h
    exact ⟨0, ⟨eput e o.dst v, S, [], false⟩, v, [], by simp [vstepG, hw, vstepOp, hl, hv, emap], rfl, h⟩
  ·rename_i hl
   split at h
   ·exact h.elim
   ·rename_i r hv
    exact ⟨0, ⟨eput (emap r.g e) o.dst r.v, r.S, r.ws, r.kf⟩, r.v, r.g, by simp [vstepG, hw, vstepOp, hl, hv], rfl, h⟩
   ·rename_i f args hv
    obtain ⟨n, r, h1, h2⟩ := zaqw h
    exact ⟨n, ⟨eput (emap r.g e) o.dst r.v, r.S, r.ws, r.kf⟩, r.v, r.g, by simp [vstepG, hw, vstepOp, hl, hv, h1], rfl, h2⟩
theorem zaq7 {ops : Array Oper} : ∀ (l : List Oper) (e : Env) (S : VH) (Q : Env → VH → Prop), VReg P X ops l e S Q → ∃ n r, vrunL P (vrun P X n) ops l e S = some r ∧ Q r.1 r.2
 | [], e, S, Q, h => ⟨0, (e, S), rfl, h⟩
 | o :: l, e, S, Q, h => by
  obtain ⟨n, r, v, g, h1, h2, h3⟩ := zauc h
  obtain ⟨m, r', h4, h5⟩ := zaq7 l _ _ Q h3
  refine ⟨max n m, r', ?_, h5⟩
  simp only [vrunL]
  rw [zagm (zabm n (max n m) (Nat.le_max_left _ _)) h1]
  simp only [Option.bind_some, h2]
  exact zajk (zabm m (max n m) (Nat.le_max_right _ _)) _ _ _ _ h4
theorem VE_run {ops : Array Oper} {sd : Bool} {S0 : VH} : ∀ (l : List Oper) (T : List (List Nat)) (es e : Env) (S : VH) (Hs : List (List Nat × Bool)) (ob : List VObl) (Q : Env → VH → Prop), VE P X ops sd S0 T l es e S Hs ob Q → ∃ n r, vrunE P (vrun P X n) ops sd S0 T l es e S Hs ob = some r ∧ Q r.1 r.2
 | [], T, es, e, S, Hs, ob, Q, h => by
  have h' : ob.all (vspan Hs.reverse) = true ∧ Q e S := by cases T <;> exact h
  refine ⟨0, (e, S), ?_, h'.2⟩
  cases T <;> (simp only [vrunE]; rw [if_pos h'.1])
 | o :: l, [], es, e, S, Hs, ob, Q, h => h.elim
 | o :: l, t :: T, es, e, S, Hs, ob, Q, h => by
  simp only [VE] at h
  cases hw : awanted ops o e with
  | none => rw [hw] at h; exact h.elim
  | some w =>
   rw [hw, zaag] at h
   cases hnb : (if t = [] then some [] else if w = false then some [⟨t, Hs.length, .ro⟩] else vobl o t Hs.length (sd && !isGone (vshade P { o with guard := none } es S0 Hs)) e) with
   | none => rw [hnb] at h; exact h.elim
   | some nb =>
    rw [hnb, zaag] at h
    obtain ⟨n, r, v, g, h1, h2, h3⟩ := zauc h
    obtain ⟨m, r', h4, h5⟩ := VE_run l T _ _ _ _ _ Q h3
    refine ⟨max n m, r', ?_, h5⟩
    simp only [vrunE, hw, Option.bind_some, hnb]
    rw [zagm (zabm n (max n m) (Nat.le_max_left _ _)) h1]
    simp only [Option.bind_some, h2]
    exact zahr (zabm m (max n m) (Nat.le_max_right _ _)) _ _ _ _ _ _ _ _ h4
theorem za1s {e : Env} {S : VH} {Q : Ex → Env → VH → Prop} (h : Q .normal e S) : Vc P X .skip e S Q := ⟨0, (.normal, e, S), rfl, h⟩
theorem Vc_ret {e : Env} {S : VH} {Q : Ex → Env → VH → Prop} (h : Q .ret e S) : Vc P X .ret e S Q := ⟨0, (.ret, e, S), rfl, h⟩
theorem za1r {id : Nat} {e : Env} {S : VH} {Q : Ex → Env → VH → Prop} (h : Q (.exit id) e S) : Vc P X (.exit id) e S Q := ⟨0, (.exit id, e, S), rfl, h⟩
theorem zaum {id : Nat} {ops : Array Oper} {e : Env} {S : VH} {Q : Ex → Env → VH → Prop} (h : VReg P X ops ops.toList e S fun e' S' => Q .normal e' S') : Vc P X (.region id ops false) e S Q := by
 obtain ⟨n, r, h1, h2⟩ := zaq7 _ _ _ _ h
 exact ⟨n, (.normal, r.1, r.2), by simp [vrunC, vrunR, h1], h2⟩
theorem zaei {id : Nat} {ops : Array Oper} {e : Env} {S : VH} {Q : Ex → Env → VH → Prop} (T : List (List Nat)) (sd : Bool) (hok : drawOk P ops = true) (hT : othersAll P ops = T) (hsd : early P ops T = sd) (h : VE P X ops sd S T ops.toList e e S [] [] fun e' S' => Q .normal e' S') : Vc P X (.region id ops true) e S Q := by
 obtain ⟨n, r, h1, h2⟩ := VE_run _ _ _ _ _ _ _ _ h
 exact ⟨n, (.normal, r.1, r.2), by simp only [vrunC, vrunR, if_true, hok, hT, hsd, h1, Option.map_some], h2⟩
theorem zags {id : Nat} {ops : Array Oper} {e : Env} {S : VH} {Q : Ex → Env → VH → Prop} (T : List (List Nat)) (sd : Bool) (hno : drawOk P ops = false) (hok : drawOk2 P ops = true) (hT : othersAll2 P ops = T) (hsd : early P ops T = sd) (h : VE P X ops sd S T ops.toList e e S [] [] fun e' S' => Q .normal e' S') : Vc P X (.region id ops true) e S Q := by
 obtain ⟨n, r, h1, h2⟩ := VE_run _ _ _ _ _ _ _ _ h
 exact ⟨n, (.normal, r.1, r.2), by simp only [vrunC, vrunR, if_true, hno, Bool.false_eq_true, if_false, hok, hT, hsd, h1, Option.map_some], h2⟩
theorem Vc_seq {a b : Code} {e : Env} {S : VH} {Q : Ex → Env → VH → Prop} (h : Vc P X a e S fun x e' S' => match x with | .normal => Vc P X b e' S' Q | x => Q x e' S') : Vc P X (a.seq b) e S Q := by
 obtain ⟨n, r, h1, h2⟩ := h
 obtain ⟨x, e', S'⟩ := r
 cases x with
 | normal =>
  obtain ⟨m, r', h3, h4⟩ := h2
  refine ⟨max n m, r', ?_, h4⟩
  simp only [vrunC]
  rw [zaco (zabm n (max n m) (Nat.le_max_left _ _)) (Nat.le_max_left _ _) _ _ _ _ h1]
  exact zaco (zabm m (max n m) (Nat.le_max_right _ _)) (Nat.le_max_right _ _) _ _ _ _ h3
 | exit id => exact ⟨n, (.exit id, e', S'), by simp [vrunC, h1], h2⟩
 | ret => exact ⟨n, (.ret, e', S'), by simp [vrunC, h1], h2⟩
theorem za1q {o : Operand} {a b : Code} {e : Env} {S : VH} {Q : Ex → Env → VH → Prop} {t : Bool} (ht : aeval e o = .bool t) (h1 : t = true → Vc P X a e S Q) (h2 : t = false → Vc P X b e S Q) : Vc P X (.cond o a b) e S Q := by
 cases t with
 | true => obtain ⟨n, r, h, hq⟩ := h1 rfl; exact ⟨n, r, by simp [vrunC, ht, h], hq⟩
 | false => obtain ⟨n, r, h, hq⟩ := h2 rfl; exact ⟨n, r, by simp [vrunC, ht, h], hq⟩
theorem zay2 {id : Nat} {c : Code} {e : Env} {S : VH} {Q : Ex → Env → VH → Prop} (h : Vc P X c e S fun x e' S' => match x with | .exit j => if j = id then Q .normal e' S' else Q (.exit j) e' S' | x => Q x e' S') : Vc P X (.block id c) e S Q := by
 obtain ⟨n, ⟨x, e', S'⟩, h1, h2⟩ := h
 cases x with
 | normal => exact ⟨n, (.normal, e', S'), by simp [vrunC, h1], h2⟩
 | ret => exact ⟨n, (.ret, e', S'), by simp [vrunC, h1], h2⟩
 | exit j =>
  simp only at h2
  by_cases hj : j = id
  ·rw [if_pos hj] at h2; exact ⟨n, (.normal, e', S'), by simp [vrunC, h1, hj], h2⟩
  ·rw [if_neg hj] at h2; exact ⟨n, (.exit j, e', S'), by simp [vrunC, h1, hj], h2⟩
theorem zagn {c : Code} {e : Env} {S : VH} {Q : Ex → Env → VH → Prop} (I : Nat → Env → VH → Prop) (m : Nat) (h0 : I m e S)
    (round : ∀ m e S, I m e S → Vc P X c e S fun x e' S' => match x with | .normal => ∃ k, k < m ∧ I k e' S' | x => Q x e' S') : Vc P X (.loop c) e S Q := by
 have key : ∀ m e S, I m e S → ∃ n r, viter (vrunC P (vrun P X n) n c) n e S = some r ∧ Q r.1 r.2.1 r.2.2 := by
  intro m
  induction m using Nat.strongRecOn with
  | ind m ih =>
   intro e S h
   obtain ⟨n, ⟨x, e', S'⟩, h1, h2⟩ := round m e S h
   cases x with
   | normal =>
    obtain ⟨k, hk, hI⟩ := h2
    obtain ⟨n', r, h3, h4⟩ := ih k hk e' S' hI
    refine ⟨max n n' + 1, r, ?_, h4⟩
    simp only [viter]
    rw [zaco (zabm n _ (by omega)) (by omega) _ _ _ _ h1]
    exact zaho (fun e H r hr => zaco (zabm n' _ (by omega)) (by omega) _ _ _ _ hr) n' _ (by omega) _ _ _ h3
   | exit id =>
    refine ⟨n + 1, (.exit id, e', S'), ?_, h2⟩
    simp only [viter]
    rw [zaco (zabm n _ (by omega)) (by omega) _ _ _ _ h1]
    rfl
   | ret =>
    refine ⟨n + 1, (.ret, e', S'), ?_, h2⟩
    simp only [viter]
    rw [zaco (zabm n _ (by omega)) (by omega) _ _ _ _ h1]
    rfl
 obtain ⟨n, r, h1, h2⟩ := key m e S h0
 exact ⟨n, r, by simp only [vrunC]; exact h1, h2⟩
theorem za1t {f : FuncId} {fn : Func} {c : Code} {args : List Value} {B : List Blk} {Q : Value → List (Nat × Blk) → Prop} (hX : X f = none) (hf : P.funcs[f]? = some fn) (hc : fn.body = some c) (hok : dstOk fn.ntmps c = true) (hl : args.length ≤ fn.ntmps)
    (h : Vc P X c args ⟨B, [], []⟩ fun x e S => With (vfinish P fn (x, e, S)) fun r => Q r.1 r.2) : Vf P X f args B Q := by
 obtain ⟨n, r, h1, h2⟩ := h
 cases hfin : vfinish P fn (r.1, r.2.1, r.2.2) with
 | none => rw [hfin] at h2; exact h2.elim
 | some q =>
  rw [hfin] at h2
  refine ⟨n + 1, q, ?_, h2⟩
  simp only [vrun, hX, hf, hc]
  rw [if_pos ⟨hok, hl⟩, h1]
  exact hfin
theorem zakg {f : FuncId} {g : List Value → List Blk → Option (Value × List (Nat × Blk))} {args : List Value} {B : List Blk} {Q : Value → List (Nat × Blk) → Prop} (hX : X f = some g) (h : With (g args B) fun r => Q r.1 r.2) : Vf P X f args B Q := by
 cases hg : g args B with
 | none => rw [hg] at h; exact h.elim
 | some r => rw [hg] at h; exact ⟨1, r, by simp only [vrun, hX]; exact hg, h⟩
theorem Vf_Df {Y : Outer} (hX : VXOk P Y X) {f : FuncId} {args cargs : List Value} {H : Hp} {b : Bool} (h : Vf P X f args [] fun v _ => v = .bool b) (ha : RdL ⟨[], fun _ => none, fun _ _ => True, H⟩ args cargs) : Df P Y f cargs H fun r _ => r = .bool b := by
 obtain ⟨n, ⟨v, ws⟩, h1, rfl⟩ := h
 refine (run_ok hX n f args [] (.bool b) ws h1 ⟨[], fun _ => none, fun _ _ => True, H⟩ cargs ?_ (fun _ => rfl) ha).mono ?_
 ·exact { len := rfl, nodup := .nil, lt := fun b hb => (by cases hb), inj := fun k k' b h => (by cases h), sep := fun k b h => (by cases h), fr := fun _ _ => trivial, dom := fun i o b h => (by cases h), own := fun k b h => trivial, blk := fun i b h => (by simp at h) }
 ·rintro cr H' ⟨R', _, _, h3⟩
  exact h3.inv_bool
end
end Go.Proofs.YtliemjbafgnnbaaDoor.Abs
