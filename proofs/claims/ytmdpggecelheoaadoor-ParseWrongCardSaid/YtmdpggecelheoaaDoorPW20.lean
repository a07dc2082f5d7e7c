/- Code and calls over values with their slices: the plain evaluator comes to what is told. -/
import Derived.Test.YtmdpggecelheoaaDoorPW19
set_option linter.unusedVariables false
set_option linter.unusedSimpArgs false
namespace Go.Proofs.YtmdpggecelheoaaDoor.Abs
open Go

section
variable {P : Program} {X : Outer} {K : VCall} {n : List Blk} {R0 R R1 Rb : Rl} {S S0 : VH} {e ce es : Env} {ops : Array Oper}
theorem code_ok (hK : KOk P X K) {m : Nat} : ∀ (c : Code) (R : Rl) (S : VH) (e ce : Env) (r : Ex × Env × VH), vrunC P K m c e S = some r → VSta n R0 R S e ce →
    Dc P X c ce R.H fun x ce' H' => x = r.1 ∧ ∃ R1 : Rl, R1.H = H' ∧ VSta n R0 R1 r.2.2 r.2.1 ce' := by
  intro c
  induction c with
  | skip => intro R S e ce r h hs; simp only [vrunC] at h; cases h; exact Dc_skip ⟨rfl, R, rfl, hs⟩
  | region id ops draw =>
    intro R S e ce r h hs
    simp only [vrunC, Option.map_eq_some_iff] at h
    obtain ⟨r1, h, rfl⟩ := h
    exact region_ok hK hs h
  | seq a b iha ihb =>
    intro R S e ce r h hs
    simp only [vrunC, Option.bind_eq_some_iff] at h
    obtain ⟨⟨x1, e1, S1⟩, h1, h⟩ := h
    refine Dc_seq ((iha R S e ce _ h1 hs).mono ?_)
    rintro x ce' H' ⟨rfl, R1, rfl, hs1⟩
    cases x with
    | normal => exact ihb R1 S1 e1 ce' r h hs1
    | exit id => cases h; exact ⟨rfl, R1, rfl, hs1⟩
    | ret => cases h; exact ⟨rfl, R1, rfl, hs1⟩
  | cond o a b iha ihb =>
    intro R S e ce r h hs
    simp only [vrunC] at h
    split at h
    · rename_i t ht
      have hh := rd_eval hs.env o
      rw [ht] at hh
      refine Dc_cond hh.inv_bool (fun h1 => ?_) (fun h2 => ?_)
      · rw [if_pos h1] at h; exact iha R S e ce r h hs
      · rw [if_neg (by simp [h2])] at h; exact ihb R S e ce r h hs
    · cases h
  | block id c ih =>
    intro R S e ce r h hs
    simp only [vrunC, Option.map_eq_some_iff] at h
    obtain ⟨⟨x1, e1, S1⟩, h1, h⟩ := h
    refine Dc_block ((ih R S e ce _ h1 hs).mono ?_)
    rintro x ce' H' ⟨rfl, R1, rfl, hs1⟩
    cases x with
    | normal => cases h; exact ⟨rfl, R1, rfl, hs1⟩
    | ret => cases h; exact ⟨rfl, R1, rfl, hs1⟩
    | exit j =>
      simp only at h ⊢
      split at h
      · rename_i hj; cases h; rw [if_pos hj]; exact ⟨rfl, R1, rfl, hs1⟩
      · rename_i hj; cases h; rw [if_neg hj]; exact ⟨rfl, R1, rfl, hs1⟩
  | loop c ih =>
    intro R S e ce r h hs
    simp only [vrunC] at h
    refine Dc_loop (fun k ce H => ∃ R S e, R.H = H ∧ VSta n R0 R S e ce ∧ viter (vrunC P K m c) k e S = some r) m ⟨R, S, e, rfl, hs, h⟩ ?_
    rintro k ce1 H1 ⟨R1, S1, e1, rfl, hs1, h1⟩
    cases k with
    | zero => simp [viter] at h1
    | succ k =>
      simp only [viter, Option.bind_eq_some_iff] at h1
      obtain ⟨⟨x2, e2, S2⟩, h2, h3⟩ := h1
      refine (ih R1 S1 e1 ce1 _ h2 hs1).mono ?_
      rintro x ce' H' ⟨rfl, R2, rfl, hs2⟩
      cases x with
      | normal => exact ⟨k, by omega, R2, S2, e2, rfl, hs2, h3⟩
      | exit id => cases h3; exact ⟨rfl, R2, rfl, hs2⟩
      | ret => cases h3; exact ⟨rfl, R2, rfl, hs2⟩
  | exit id => intro R S e ce r h hs; simp only [vrunC] at h; cases h; exact Dc_exit ⟨rfl, R, rfl, hs⟩
  | ret => intro R S e ce r h hs; simp only [vrunC] at h; cases h; exact Dc_ret ⟨rfl, R, rfl, hs⟩
  | _ => intro R S e ce r h; simp [vrunC] at h
theorem results_ok (hs : VSta n R0 R S e ce) : ∀ (rs : List ResultVar) (vs : List Value), vresults P e S rs = some vs → ∃ us, aresults P ce R.H rs = some us ∧ RdL R vs us := by
  intro rs
  induction rs with
  | nil => intro vs h; simp only [vresults] at h; cases h; exact ⟨[], rfl, .nil⟩
  | cons r rs ih =>
    intro vs h
    simp only [vresults, Option.bind_eq_some_iff, Option.map_eq_some_iff] at h
    obtain ⟨v, hv, vs1, hvs, rfl⟩ := h
    obtain ⟨us, h1, h2⟩ := ih vs1 hvs
    cases r with
    | tmp t =>
      simp only [vresult] at hv
      cases hv
      exact ⟨eget ce t :: us, by simp only [aresults, aresult, Option.bind_some, h1, Option.map_some], .cons (hs.env t) h2⟩
    | cell a t =>
      simp only [vresult] at hv
      obtain ⟨u, hu, hvu⟩ := load_ok hs.hr (hs.env a) hv
      exact ⟨u :: us, by simp only [aresults, aresult, hu, Option.bind_some, h1, Option.map_some], .cons hvu h2⟩
theorem ret1_ok {vs us : List Value} (h : RdL R vs us) : Rd R (ret1 vs) (ret1 us) := by
  rcases vs with _ | ⟨v, _ | ⟨v', vs⟩⟩
  · have : us = [] := by have := h.1; simpa using this.symm
    subst this
    exact .tuple [] [] rfl (fun i => by simp; exact .undef _)
  · obtain ⟨u, rfl⟩ : ∃ u, us = [u] := by
      have := h.1
      rcases us with _ | ⟨u, _ | ⟨_, _⟩⟩
      · simp at this
      · exact ⟨u, rfl⟩
      · simp at this
    exact h.head
  · have hl := h.1
    rcases us with _ | ⟨u, _ | ⟨u', us⟩⟩
    · simp at hl
    · simp at hl
    · exact .tuple _ _ h.1 h.2
theorem rd_low {v u : Value} (h : Rd R v u) : lowv R.φ.length v = true := by
  have getx : ∀ x : List Value, (∀ i : Nat, lowv R.φ.length (x.getD i undef) = true) → x.all (lowv R.φ.length) = true := by
    intro x hx
    rw [List.all_eq_true]
    intro y hy
    obtain ⟨i, hi⟩ := List.getElem?_of_mem hy
    have := hx i
    rwa [List.getD_eq_getElem?_getD, hi] at this
  induction h with
  | ptr i off b h => simp only [lowv, decide_eq_true_eq]; exact (List.getElem?_eq_some_iff.1 h).1
  | clo f x y x' y' h1 h2 _ _ ih1 ih2 => simp only [lowv, lowvA, lowvL_eq, getx x ih1, getx y ih2, Bool.and_self]
  | iface t v u _ ih => simp only [lowv]; exact ih
  | agg x y h1 _ ih => simp only [lowv, lowvA, lowvL_eq]; exact getx x ih
  | tuple x y h1 _ ih => simp only [lowv, lowvA, lowvL_eq]; exact getx x ih
  | scal v h => cases v <;> first | rfl | (rename_i a; cases a <;> first | rfl | (simp [isScal] at h))
  | _ => rfl
/-- A value whose pointers are low, in a state that has no others. -/
theorem Rd.lowc {m : Nat} (hφ : ∀ (i b : Nat), i < m → R.φ[i]? = some b → R1.φ[i]? = some b) (hp : ∀ d b, R.prot b → R.M d b → R1.prot b ∧ R1.M d b ∧ R1.H.get b = R.H.get b) {v u : Value} (h : Rd R v u) :
    lowv m v = true → (∀ k ∈ toks v, ∀ b, R.ρ k = some b → R1.ρ k = some b ∧ R1.H.get b = R.H.get b) → Rd R1 v u := by
  have gl : ∀ x : List Value, x.all (lowv m) = true → ∀ i : Nat, lowv m (x.getD i Go.undef) = true := by
    intro x hx i
    rw [List.getD_eq_getElem?_getD]
    cases hi : x[i]? with
    | none => rfl
    | some a => rw [List.all_eq_true] at hx; exact hx a (List.mem_of_getElem? hi)
  have gt : ∀ (x : List Value) (i : Nat) k, k ∈ toks (x.getD i Go.undef) → k ∈ x.flatMap toks := by
    intro x i k hk
    rw [List.getD_eq_getElem?_getD] at hk
    cases hi : x[i]? with
    | none => rw [hi] at hk; cases hk
    | some a => rw [hi] at hk; exact List.mem_flatMap.2 ⟨a, List.mem_of_getElem? hi, hk⟩
  have gc : ∀ x : List Value, x.all (okv 0 true) = true → ∀ i : Nat, lowv m (x.getD i Go.undef) = true := by
    intro x hx i
    rw [List.getD_eq_getElem?_getD]
    cases hi : x[i]? with
    | none => rfl
    | some a => rw [List.all_eq_true] at hx; exact lowv_okv a (okv_le (Nat.zero_le m) a (hx a (List.mem_of_getElem? hi)))
  have gcell : ∀ y : Value, okv 0 true y = true → y.cells.toList.all (okv 0 true) = true := by
    intro y hy
    cases y with
    | agg z => obtain ⟨z⟩ := z; rw [okv_agg] at hy; exact hy
    | _ => simpa [Value.cells] using hy
  have gcells : ∀ l : List Value, okvL 0 true l = true → (cellsL l).all (okv 0 true) = true := by
    intro l hl
    rw [okvL_eq, List.all_eq_true] at hl
    rw [List.all_eq_true]
    intro x hx
    simp only [cellsL, List.mem_flatMap] at hx
    obtain ⟨y, hy, hx⟩ := hx
    have := gcell y (hl y hy)
    rw [List.all_eq_true] at this
    exact this x hx
  induction h with
  | stale i u h => intro _ _; exact .stale i u h
  | nr => intro _ _; exact .nr
  | undef u => intro _ _; exact .undef u
  | scal v h => intro _ _; exact .scal v h
  | ptr i off b h => intro hl _; exact .ptr i off b (hφ i b (by simpa [lowv] using hl) h)
  | clo f x y x' y' h1 h2 _ _ ih1 ih2 =>
    intro hl ht
    simp only [lowv, lowvA, lowvL_eq, Bool.and_eq_true] at hl
    rw [toks_clo] at ht
    exact .clo f x y x' y' h1 h2 (fun i => ih1 i (gl x hl.1 i) fun k hk => ht k (List.mem_append_left _ (gt x i k hk))) (fun i => ih2 i (gl y hl.2 i) fun k hk => ht k (List.mem_append_right _ (gt y i k hk)))
  | iface t v u _ ih => intro hl ht; exact .iface t v u (ih (by simpa only [lowv] using hl) (by rwa [toks_iface] at ht))
  | agg x y h1 _ ih =>
    intro hl ht
    simp only [lowv, lowvA, lowvL_eq] at hl
    rw [toks_agg] at ht
    exact .agg x y h1 fun i => ih i (gl x hl i) fun k hk => ht k (gt x i k hk)
  | tuple x y h1 _ ih =>
    intro hl ht
    simp only [lowv, lowvA, lowvL_eq] at hl
    rw [toks_tuple] at ht
    exact .tuple x y h1 fun i => ih i (gl x hl i) fun k hk => ht k (gt x i k hk)
  | ro d sz l b off o el c h0 hpp hM hg hl hsz hok _ ih =>
    intro _ _
    obtain ⟨g1, g2, g3⟩ := hp d b hpp hM
    exact .ro d sz l b off o el c h0 g1 g2 (by rw [g3, hg]) hl hsz hok fun i => ih i (gc _ (gcells l hok) i) fun k hk => by rw [toks_getD (free_cellsL hok) i] at hk; cases hk
  | roE d sz b off h => intro _ _; exact .roE d sz b off h
  | own k sz j l b el c h0 hk hg hl hsz hok _ ih =>
    intro _ ht
    obtain ⟨g1, g2⟩ := ht k (by rw [toks_vo]; simp) b hk
    exact .own k sz j l b el c h0 g1 (by rw [g2, hg]) hl hsz hok fun i => ih i (gc _ (gcells l hok) i) fun k hk => by rw [toks_getD (free_cellsL hok) i] at hk; cases hk
  | «at» v d b off o el c hpp hM hg hl hok _ ih =>
    intro _ _
    obtain ⟨g1, g2, g3⟩ := hp d b hpp hM
    exact .at v d b off o el c g1 g2 (by rw [g3, hg]) hl hok fun i => ih i (gc _ (gcell v hok) i) fun k hk => by rw [toks_getD (free_cells hok) i] at hk; cases hk
  | atOwn k sz j v b el c h0 hk hg hs hl hok _ ih =>
    intro _ ht
    obtain ⟨g1, g2⟩ := ht k (by rw [toks_vq]; simp) b hk
    exact .atOwn k sz j v b el c h0 g1 (by rw [g2, hg]) hs hl hok fun i => ih i (gc _ (gcell v hok) i) fun k hk => by rw [toks_getD (free_cells hok) i] at hk; cases hk
  | inOwn k v b off el c hk hg hl hok _ ih =>
    intro _ ht
    obtain ⟨g1, g2⟩ := ht k (by rw [toks_vr]; simp) b hk
    exact .inOwn k v b off el c g1 (by rw [g2, hg]) hl hok fun i => ih i (gc _ (gcell v hok) i) fun k hk => by rw [toks_getD (free_cells hok) i] at hk; cases hk
theorem setW_writes {B C : List Blk} (hl : B.length = C.length) : ∀ (w : List Nat), (∀ i, i < B.length → i ∉ w → C[i]? = B[i]?) → (∀ i ∈ w, i < B.length) → setW B (w.map fun i => (i, C.getD i .dead)) = C := by
  intro w hsame hlt
  apply List.ext_getElem?
  intro i
  by_cases hi : i ∈ w
  · rcases setW_in (w.map fun i => (i, C.getD i .dead)) B i with ⟨p, hp, h1, h2⟩ | h
    · obtain ⟨j, hj, rfl⟩ := List.mem_map.1 hp
      simp only at h1
      subst h1
      rw [h2, List.getElem?_set, if_pos rfl, if_pos (hlt _ hj)]
      have : j < C.length := by rw [← hl]; exact hlt _ hj
      simp [List.getD_eq_getElem?_getD, List.getElem?_eq_getElem this]
    · exact absurd rfl (h (i, C.getD i .dead) (List.mem_map.2 ⟨i, hi, rfl⟩))
  · rw [setW_other _ _ _ (by
      intro p hp
      obtain ⟨j, hj, rfl⟩ := List.mem_map.1 hp
      rintro rfl
      exact hi hj)]
    by_cases hib : i < B.length
    · exact (hsame i hib hi).symm
    · rw [List.getElem?_eq_none (by omega), List.getElem?_eq_none (by omega)]
theorem finish_ok (hr0 : HRel R0 n) (hs : VSta n R0 R S e ce) {fn : Func} {x : Ex} {v : Value} {ws : List (Nat × Blk)} (h : vfinish P fn (x, e, S) = some (v, ws)) :
    ∃ cv, finish P fn (x, ce, R.H) = some (cv, R.H) ∧ ∃ R' : Rl, R'.H = R.H ∧ Done R0 R' n ws ∧ Rd R' v cv := by
  have hx : ∃ vs, vresults P e S fn.results.toList = some vs ∧ vtell (ret1 vs) S = some (v, ws) ∧ ∀ us, aresults P ce R.H fn.results.toList = some us → finish P fn (x, ce, R.H) = some (ret1 us, R.H) := by
    unfold vfinish at h
    cases x with
    | exit id => cases h
    | normal =>
      simp only [Option.bind_eq_some_iff] at h
      obtain ⟨vs, h1, h2⟩ := h
      exact ⟨vs, h1, h2, fun us hu => by simp only [finish, hu, Option.map_some]⟩
    | ret =>
      simp only [Option.bind_eq_some_iff] at h
      obtain ⟨vs, h1, h2⟩ := h
      exact ⟨vs, h1, h2, fun us hu => by simp only [finish, hu, Option.map_some]⟩
  obtain ⟨vs, h1, h2, h3⟩ := hx
  obtain ⟨us, h4, h5⟩ := results_ok hs _ _ h1
  refine ⟨ret1 us, h3 us h4, ?_⟩
  have hv := ret1_ok h5
  unfold vtell at h2
  split at h2
  · rename_i hok
    cases h2
    generalize ret1 vs = v0 at hv hok ⊢
    rw [hs.bn] at hok
    have t1 := thaw_step hs.hr (toks v0) (toks_lt hs.hr hv)
    have hs1 := hs.next t1
    have hv1 : Rd (R.less (toks v0)) (mapOwn thawAll v0) (ret1 us) := by
      have := t1.rd _ _ hv
      simp only [turns, List.foldl_cons, List.foldl_nil] at this
      rwa [thawAll_eq (ks := toks v0) fun k hk => hk]
    generalize hR1 : R.less (toks v0) = Q at t1 hs1 hv1
    have hQH : Q.H = R.H := by rw [← hR1]; rfl
    generalize S.thaw (toks v0) = S1 at t1 hs1
    have hφ0 : ∀ (i b : Nat), i < n.length → Q.φ[i]? = some b → R0.φ[i]? = some b := fun i b hi hb => by
      have hl : i < R0.φ.length := by rw [hs1.bn0]; exact hi
      have := hs1.pre i _ (List.getElem?_eq_getElem hl)
      rw [hb] at this
      cases this
      exact List.getElem?_eq_getElem hl
    have hφm : ∀ b, b ∈ R0.φ → b ∈ Q.φ := fun b hb => by
      obtain ⟨i, hi⟩ := List.getElem?_of_mem hb
      exact List.mem_of_getElem? (hs1.pre i b hi)
    have hρ0 : ∀ k b, (if k.2 ≠ none ∧ k.1 < n.length then Q.ρ k else none) = some b → Q.ρ k = some b ∧ k.2 ≠ none ∧ k.1 < n.length := fun k b h => by
      split at h
      · rename_i hh; exact ⟨h, hh.1, hh.2⟩
      · cases h
    have hprot : ∀ d b, Q.prot b → Q.M d b → (⟨R0.φ, fun k => if k.2 ≠ none ∧ k.1 < n.length then Q.ρ k else none, R0.M, Q.H⟩ : Rl).prot b ∧ R0.M d b ∧ Q.H.get b = Q.H.get b := fun d b hp hM =>
      ⟨⟨hp.1, fun hb => hp.2.1 (hφm b hb), fun k hk => hp.2.2 k (hρ0 k b hk).1⟩, by rw [← hs1.M]; exact hM, rfl⟩
    have hwr : setW n S1.writes = S1.base := by
      unfold VH.writes
      refine setW_writes hs1.bn.symm S1.w (fun i hi hw => ?_) hs1.w
      have := hs1.same i hi hw
      rw [← this, VH.all, List.getElem?_append_left (by rw [hs1.bn]; exact hi)]
    refine ⟨⟨R0.φ, fun k => if k.2 ≠ none ∧ k.1 < n.length then Q.ρ k else none, R0.M, Q.H⟩, hQH, ?_, ?_⟩
    · refine { hr := ?_, φ := rfl, M := rfl, nx := hs1.nx, fr := ?_, keep := ?_, frame := fun d => by simp, tok := ?_, w := ?_ }
      · rw [hwr]
        refine { len := by rw [hs1.bn]; exact hs1.bn0, nodup := hr0.nodup, lt := fun b hb => Nat.lt_of_lt_of_le (hr0.lt b hb) hs1.nx, inj := fun k k' b e1 e2 => hs1.hr.inj k k' b (hρ0 k b e1).1 (hρ0 k' b e2).1, sep := fun k b e1 => ⟨fun hb => (hs1.hr.sep k b (hρ0 k b e1).1).1 (hφm b hb), (hs1.hr.sep k b (hρ0 k b e1).1).2⟩, fr := fun b hb => hr0.fr b (Nat.le_trans hs1.nx hb), dom := fun i o b e1 => by rw [hs1.bn0]; exact (hρ0 _ b e1).2.2, own := fun k b e1 => (hs1.M ▸ hs1.hr.own k b (hρ0 k b e1).1 : R0.M 0 b), blk := ?_ }
        intro i b hb
        have hi : i < n.length := by rw [← hs1.bn0]; exact (List.getElem?_eq_some_iff.1 hb).1
        have hB := hs1.hr.blk i b (hs1.pre i b hb)
        have hlow := hs1.low i hi
        have hgd : S1.all.getD i .dead = S1.base.getD i .dead := by
          rw [VH.all, List.getD_eq_getElem?_getD, List.getElem?_append_left (by rw [hs1.bn]; exact hi), ← List.getD_eq_getElem?_getD]
        rw [hgd] at hB hlow
        show BR _ i _ (Q.H.get b)
        generalize S1.base.getD i .dead = B at hB hlow
        cases B with
        | cells o el c =>
          obtain ⟨b1, c', b2, b3, b4⟩ := hB
          refine ⟨b1, c', b2, .of_forall b3.1 fun j x u hx hu => ?_, b4⟩
          obtain ⟨u', hu', hxu⟩ := b3.get? hx
          rw [hu] at hu'
          cases hu'
          refine Rd.lowc (R := Q) (R1 := ⟨R0.φ, fun k => if k.2 ≠ none ∧ k.1 < n.length then Q.ρ k else none, R0.M, Q.H⟩) (m := n.length) hφ0 hprot hxu (hlow x (List.mem_of_getElem? hx)) fun k hk b' hb' => ?_
          rcases b4 j x hx with h | h
          · rw [h] at hk; cases hk
          · rw [ownTok_toks h, List.mem_singleton] at hk
            subst hk
            exact ⟨by simp only; rw [if_pos ⟨by simp, hi⟩]; exact hb', rfl⟩
        | _ => trivial
      · intro b hb hw
        refine hs1.fr b hb fun i hi => ?_
        exact hw (i, S1.base.getD i .dead) (List.mem_map.2 ⟨i, hi, rfl⟩)
      · intro i hw o
        have hi : i ∉ S1.w := fun h => hw (i, S1.base.getD i .dead) (List.mem_map.2 ⟨i, h, rfl⟩) rfl
        simp only
        by_cases hin : i < n.length
        · rw [if_pos ⟨by simp, hin⟩]
          exact hs1.keep i hin hi o
        · rw [if_neg (fun h => hin h.2)]
          cases hh : R0.ρ (i, some o) with
          | none => rfl
          | some b => exact absurd (hs1.hr0 i o b hh) hin
      · intro k b e1
        exact hs1.tok k b (hρ0 k b e1).1
      · intro p hp
        obtain ⟨i, hi, rfl⟩ := List.mem_map.1 hp
        exact hs1.w i hi
    · exact Rd.okc (R := Q) (R' := ⟨R0.φ, fun k => if k.2 ≠ none ∧ k.1 < n.length then Q.ρ k else none, R0.M, Q.H⟩) (n := n.length) hφ0 hv1 false (fun d b _ hp hM => hprot d b hp hM) hok
  · cases h2
/-- What is given from outside is answered alike. -/
def VXOk (P : Program) (X : Outer) (XV : VOuter) : Prop := ∀ f, match XV f with
  | none => X f = none
  | some g => ∀ args B r ws, g args B = some (r, ws) → ∀ R cargs, HRel R B → (∀ d, R.ρ (d, none) = none) → RdL R args cargs → Df P X f cargs R.H fun cr H' => ∃ R' : Rl, R'.H = H' ∧ Done R R' B ws ∧ Rd R' r cr
theorem start_ok {B : List Blk} {R : Rl} {args cargs : List Value} (hr : HRel R B) (hf : ∀ d, R.ρ (d, none) = none) (ha : RdL R args cargs) : VSta B R R ⟨B, [], []⟩ args cargs where
  hr := by simpa [VH.all] using hr
  bn := rfl
  bn0 := hr.len
  hr0 := fun i o b h => by rw [← hr.len]; exact hr.dom i o b h
  fr0 := hf
  pre := fun i b h => h
  M := rfl
  nx := Nat.le_refl _
  fr := fun b _ _ => rfl
  keep := fun i _ _ o => rfl
  tok := fun k b h => .inl h
  box := fun i b hi h => by
    have := (List.getElem?_eq_some_iff.1 h).1
    rw [hr.len] at this
    omega
  w := fun i h => by cases h
  low := by
    intro i hi x hx
    simp only [VH.all, List.append_nil] at hx
    have hil : i < R.φ.length := by rw [hr.len]; exact hi
    have hB := hr.blk i _ (List.getElem?_eq_getElem hil)
    generalize B.getD i .dead = C at hx hB
    cases C with
    | cells o e c =>
      obtain ⟨_, c', _, h3, _⟩ := hB
      obtain ⟨j, hj⟩ := List.getElem?_of_mem hx
      obtain ⟨u, _, hu⟩ := h3.get? hj
      have := rd_low hu
      rwa [hr.len] at this
    | _ => cases hx
  same := fun i hi _ => by simp [VH.all]
  env := fun t => ha.2 t
theorem run_ok {XV : VOuter} (hX : VXOk P X XV) : ∀ m, KOk P X (vrun P XV m) := by
  intro m
  induction m with
  | zero => intro f args B r ws h; simp [vrun] at h
  | succ m ih =>
    intro f args B r ws h R cargs hr hf ha
    simp only [vrun] at h
    have hXf := hX f
    cases hx : XV f with
    | some g => rw [hx] at h hXf; exact hXf args B r ws h R cargs hr hf ha
    | none =>
      rw [hx] at h hXf
      simp only at h hXf
      cases hfn : P.funcs[f]? with
      | none => rw [hfn] at h; cases h
      | some fn =>
        rw [hfn] at h
        simp only at h
        cases hb : fn.body with
        | none => rw [hb] at h; cases h
        | some c =>
          rw [hb] at h
          simp only at h
          split at h
          · rename_i hd
            rw [Option.bind_eq_some_iff] at h
            obtain ⟨⟨x, e, S⟩, h1, h2⟩ := h
            refine Df_body hXf hfn hb hd.1 (by rw [← ha.1]; exact hd.2) ((code_ok ih c R ⟨B, [], []⟩ args cargs _ h1 (start_ok hr hf ha)).mono ?_)
            rintro x' ce' H' ⟨rfl, R1, rfl, hs⟩
            obtain ⟨cv, g1, R', g2, g3, g4⟩ := finish_ok (P := P) hr hs h2
            rw [g1]
            exact ⟨R', g2, g3, g4⟩
          · cases h
end
end Go.Proofs.YtmdpggecelheoaaDoor.Abs
