/- Calls over values with their slices. -/
import Derived.Test.YtmdpggecelheoaaDoorPW14
set_option linter.unusedVariables false
set_option linter.unusedSimpArgs false
namespace Go.Proofs.YtmdpggecelheoaaDoor.Abs
open Go

def setW (B : List Blk) (ws : List (Nat × Blk)) : List Blk := ws.foldl (fun B p => B.set p.1 p.2) B
/-- What is known when a call is over. -/
structure Done (R R' : Rl) (B : List Blk) (ws : List (Nat × Blk)) : Prop where
  hr : HRel R' (setW B ws)
  φ : R'.φ = R.φ
  M : R'.M = R.M
  nx : R.H.next ≤ R'.H.next
  fr : ∀ b, b < R.H.next → (∀ p ∈ ws, R.φ[p.1]? ≠ some b ∧ ∀ o, R.ρ (p.1, some o) ≠ some b) → R'.H.get b = R.H.get b
  keep : ∀ i, (∀ p ∈ ws, p.1 ≠ i) → ∀ o, R'.ρ (i, some o) = R.ρ (i, some o)
  frame : ∀ d, R'.ρ (d, none) = none
  tok : ∀ k b, R'.ρ k = some b → R.ρ k = some b ∨ R.H.next ≤ b
  w : ∀ p ∈ ws, p.1 < B.length
/-- Calls are answered alike. -/
def KOk (P : Program) (X : Outer) (K : VCall) : Prop := ∀ f args B r ws, K f args B = some (r, ws) → ∀ R cargs, HRel R B → (∀ d, R.ρ (d, none) = none) → RdL R args cargs →
  Df P X f cargs R.H fun cr H' => ∃ R' : Rl, R'.H = H' ∧ Done R R' B ws ∧ Rd R' r cr
mutual
theorem okv_le {m n : Nat} (hmn : m ≤ n) {st : Bool} : ∀ v : Value, okv m st v = true → okv n st v = true
  | .func f x y, h => by
    cases f with
    | func i =>
      simp only [okv, Bool.and_eq_true] at h ⊢
      exact ⟨okvA_le hmn x h.1, okvA_le hmn y h.2⟩
    | _ => exact h
  | .iface t v, h => by simp only [okv] at h ⊢; exact okv_le hmn v h
  | .agg x, h => by simp only [okv] at h ⊢; exact okvA_le hmn x h
  | .tuple x, h => by simp only [okv] at h ⊢; exact okvA_le hmn x h
  | .bool _, _ => rfl
  | .int .., _ => rfl
  | .float .., _ => rfl
  | .complex .., _ => rfl
  | .string _, _ => rfl
  | .pointer none, _ => rfl
  | .pointer (some a), h => by simp only [okv, decide_eq_true_eq] at h ⊢; omega
  | .slice a k c, h => by cases a <;> cases k <;> cases c <;> first | rfl | exact h
  | .map none, _ => rfl
  | .map (some i), h => by simp only [okv, decide_eq_true_eq] at h ⊢; omega
  | .chan _, h => h
  | .nilFunc, _ => rfl
  | .nilIface, _ => rfl
theorem okvA_le {m n : Nat} (hmn : m ≤ n) {st : Bool} : ∀ x : Array Value, okvA m st x = true → okvA n st x = true
  | ⟨x⟩, h => by simp only [okvA] at h ⊢; exact okvL_le hmn x h
theorem okvL_le {m n : Nat} (hmn : m ≤ n) {st : Bool} : ∀ x : List Value, okvL m st x = true → okvL n st x = true
  | [], _ => rfl
  | a :: x, h => by
    simp only [okvL, Bool.and_eq_true] at h ⊢
    exact ⟨okv_le hmn a h.1, okvL_le hmn x h.2⟩
end
section
variable {R R' R1 : Rl} {S : VH} {P : Program} {X : Outer} {K : VCall}
/-- A value that may be told, in another state. -/
theorem Rd.okc {n : Nat} (hφ : ∀ (i b : Nat), i < n → R.φ[i]? = some b → R'.φ[i]? = some b) {v u : Value} (h : Rd R v u) :
    ∀ st : Bool, (∀ d b, (st = true → d = 0) → R.prot b → R.M d b → R'.prot b ∧ R'.M d b ∧ R'.H.get b = R.H.get b) → okv n st v = true → Rd R' v u := by
  have hget : ∀ (st : Bool) (x : List Value), x.all (okv n st) = true → ∀ i, okv n st (x.getD i Go.undef) = true := by
    intro st x hx i
    rw [List.getD_eq_getElem?_getD]
    cases hi : x[i]? with
    | none => rfl
    | some a => rw [List.all_eq_true] at hx; exact hx a (List.mem_of_getElem? hi)
  have hup : ∀ v : Value, okv 0 true v = true → okv n true v = true := okv_le (Nat.zero_le n)
  induction h with
  | stale i u h => intro st _ ho; cases ho
  | nr => intro st _ _; exact .nr
  | undef u => intro st _ _; exact .undef u
  | scal v h => intro st _ _; exact .scal v h
  | ptr i off b h => intro st _ ho; exact .ptr i off b (hφ i b (by simpa [okv_ptr] using ho) h)
  | clo f x y x' y' h1 h2 _ _ ih1 ih2 =>
    intro st hp ho
    rw [okv_clo, Bool.and_eq_true] at ho
    exact .clo f x y x' y' h1 h2 (fun i => ih1 i st hp (hget st x ho.1 i)) (fun i => ih2 i st hp (hget st y ho.2 i))
  | iface t v u _ ih => intro st hp ho; exact .iface t v u (ih st hp (by rwa [okv_iface] at ho))
  | agg x y h1 _ ih => intro st hp ho; rw [okv_agg] at ho; exact .agg x y h1 fun i => ih i st hp (hget st x ho i)
  | tuple x y h1 _ ih => intro st hp ho; rw [okv_tuple] at ho; exact .tuple x y h1 fun i => ih i st hp (hget st x ho i)
  | ro d sz l b off o el c h0 hp hM hg hl hsz hok _ ih =>
    intro st hh ho
    rw [okv_vs] at ho
    have hd : st = true → d = 0 := by rintro rfl; simpa using ho
    obtain ⟨g1, g2, g3⟩ := hh d b hd hp hM
    refine .ro d sz l b off o el c h0 g1 g2 (by rw [g3, hg]) hl hsz hok fun i => ih i true (fun d b hd => hh d b fun _ => hd rfl) ?_
    have : (cellsL l).all (okv n true) = true := by
      rw [List.all_eq_true]
      intro x hx
      simp only [cellsL, List.mem_flatMap] at hx
      obtain ⟨y, hy, hx⟩ := hx
      rw [okvL_eq, List.all_eq_true] at hok
      have hy' := hup y (hok y hy)
      cases y with
      | agg z => obtain ⟨z⟩ := z; rw [okv_agg, List.all_eq_true] at hy'; exact hy' x hx
      | _ => simp only [Value.cells, List.mem_singleton] at hx; subst hx; exact hy'
    exact hget true _ this i
  | roE d sz b off h => intro st _ _; exact .roE d sz b off h
  | own k sz j l b el c => intro st _ ho; cases ho
  | «at» v d b off o el c => intro st _ ho; cases ho
  | atOwn k sz j v b el c => intro st _ ho; cases ho
  | inOwn k v b off el c => intro st _ ho; cases ho
/-- A value in another state where all that it names is still the same. -/
theorem Rd.conv (hφ : ∀ (i b : Nat), R.φ[i]? = some b → R'.φ[i]? = some b) (hp : ∀ d b, R.prot b → R.M d b → R'.prot b ∧ R'.M d b ∧ R'.H.get b = R.H.get b) (hρ : ∀ k b, R.ρ k = some b → R'.ρ k = some b ∧ R'.H.get b = R.H.get b) {v u : Value} (h : Rd R v u) : Rd R' v u := by
  induction h with
  | stale i u h => exact .stale i u h
  | nr => exact .nr
  | undef u => exact .undef u
  | scal v h => exact .scal v h
  | ptr i off b h => exact .ptr i off b (hφ i b h)
  | clo f x y x' y' h1 h2 _ _ ih1 ih2 => exact .clo f x y x' y' h1 h2 ih1 ih2
  | iface t v u _ ih => exact .iface t v u ih
  | agg x y h1 _ ih => exact .agg x y h1 ih
  | tuple x y h1 _ ih => exact .tuple x y h1 ih
  | ro d sz l b off o el c h0 hpp hM hg hl hsz hok _ ih =>
    obtain ⟨g1, g2, g3⟩ := hp d b hpp hM
    exact .ro d sz l b off o el c h0 g1 g2 (by rw [g3, hg]) hl hsz hok ih
  | roE d sz b off h => exact .roE d sz b off h
  | own k sz j l b el c h0 hk hg hl hsz hok _ ih =>
    obtain ⟨g1, g2⟩ := hρ k b hk
    exact .own k sz j l b el c h0 g1 (by rw [g2, hg]) hl hsz hok ih
  | «at» v d b off o el c hpp hM hg hl hok _ ih =>
    obtain ⟨g1, g2, g3⟩ := hp d b hpp hM
    exact .at v d b off o el c g1 g2 (by rw [g3, hg]) hl hok ih
  | atOwn k sz j v b el c h0 hk hg hs hl hok _ ih =>
    obtain ⟨g1, g2⟩ := hρ k b hk
    exact .atOwn k sz j v b el c h0 g1 (by rw [g2, hg]) hs hl hok ih
  | inOwn k v b off el c hk hg hl hok _ ih =>
    obtain ⟨g1, g2⟩ := hρ k b hk
    exact .inOwn k v b off el c g1 (by rw [g2, hg]) hl hok ih
theorem RdL.map_left {f : Value → Value} {x y : List Value} (hf : f Go.undef = Go.undef) (h : x.length = y.length) (hh : ∀ i : Nat, Rd R (f (x.getD i Go.undef)) (y.getD i Go.undef)) : RdL R (x.map f) y :=
  ⟨by simpa using h, fun i => by
    have := hh i
    rw [List.getD_eq_getElem?_getD] at this ⊢
    rw [List.getElem?_map]
    cases hx : x[i]? with
    | none => rw [hx] at this; simp only [Option.getD_none, Option.map_none] at this ⊢; rwa [hf] at this
    | some a => rw [hx] at this; exact this⟩
theorem okvL_getD {n : Nat} {st : Bool} {x : List Value} (h : okvL n st x = true) (i : Nat) : okv n st (x.getD i undef) = true := by
  rw [okvL_eq, List.all_eq_true] at h
  rw [List.getD_eq_getElem?_getD]
  cases hi : x[i]? with
  | none => rfl
  | some a => exact h a (List.mem_of_getElem? hi)
/-- Nothing that there was has changed. -/
theorem still (hr : HRel R S.all) {H' : Hp} (hn : R.H.next ≤ H'.next) (hg : ∀ b, b < R.H.next → H'.get b = R.H.get b) : Nxt R { R with H := H' } S S [] false [] := by
  have hs : Stays R { R with H := H' } := grow_stays (fun i b hb => hb) (fun b hb => .inl hb) (fun k b h => .inl h) rfl hn fun b hb => hg b hb.1
  have hf : FateOk R { R with H := H' } fun _ => .keep := keep_fate hr fun k b h => ⟨h, hg b (hr.sep k b h).2⟩
  exact { hr := { len := hr.len, nodup := hr.nodup, lt := fun b hb => Nat.lt_of_lt_of_le (hr.lt b hb) hn, inj := hr.inj, sep := fun k b h => ⟨(hr.sep k b h).1, Nat.lt_of_lt_of_le (hr.sep k b h).2 hn⟩, fr := fun b hb => hr.fr b (Nat.le_trans hn hb), dom := hr.dom, own := hr.own, blk := fun i b hb => by show BR _ i _ (H'.get b); rw [hg b (hr.lt b (List.mem_of_getElem? hb))]; exact (hr.blk i b hb).same hs hf }, pre := fun i b h => h, M := rfl, nx := hn, eff := fun b hb _ _ => hg b hb, bl := rfl, w1 := fun i hi => hi, w2 := fun i hi => (by cases hi), w3 := fun i hi => .inl hi, keep := fun _ _ _ _ => rfl, tok := fun k b h => .inl h, box := fun i b h => .inl h, rd := fun v u h => h.same hs hf, low := fun h => h, same := fun _ _ _ => rfl }
/-- A call without pointers. -/
theorem call_pure (hr : HRel R S.all) (hK : KOk P X K) {f : FuncId} {args cargs : List Value} (ha : RdL R args cargs) (hok : okvL 0 false (mapOwnL (lend true) args) = true) {v : Value} {ws : List (Nat × Blk)} (hk : K f (mapOwnL (lend true) args) [] = some (v, ws)) (hv : okv 0 (!(toksL args).isEmpty) v = true) (hw : ws = []) :
    Df P X f cargs R.H fun cu H' => ∃ R1 : Rl, R1.H = H' ∧ Nxt R R1 S S [] false [] ∧ Rd R1 v cu := by
  subst hw
  -- which blocks may be told
  have main : ∀ (M' : Nat → Nat → Prop), (∀ b, R.H.next ≤ b → M' 0 b) → RdL ⟨[], fun _ => none, M', R.H⟩ (mapOwnL (lend true) args) cargs → (∀ d b, ((!(toksL args).isEmpty) = true → d = 0) → M' d b → R.M d b ∧ b ∉ R.φ ∧ ∀ k, R.ρ k ≠ some b) →
      Df P X f cargs R.H fun cu H' => ∃ R1 : Rl, R1.H = H' ∧ Nxt R R1 S S [] false [] ∧ Rd R1 v cu := by
    intro M' hfr hargs hM
    have hr0 : HRel ⟨[], fun _ => none, M', R.H⟩ [] := { len := rfl, nodup := .nil, lt := fun b hb => (by cases hb), inj := fun k k' b h => (by cases h), sep := fun k b h => (by cases h), fr := hfr, dom := fun i o b h => (by cases h), own := fun k b h => (by cases h), blk := fun i b h => (by simp at h) }
    refine (hK f _ [] v [] hk ⟨[], fun _ => none, M', R.H⟩ cargs hr0 (fun _ => rfl) hargs).mono ?_
    rintro cu H' ⟨R', h1, h2, h3⟩
    subst h1
    have hg : ∀ b, b < R.H.next → R'.H.get b = R.H.get b := fun b hb => h2.fr b hb (by simp)
    refine ⟨{ R with H := R'.H }, rfl, still hr h2.nx hg, ?_⟩
    refine Rd.okc (n := 0) (fun i b hi => (by omega)) h3 _ (fun d b hd hp hMM => ?_) hv
    rw [h2.M] at hMM
    obtain ⟨m1, m2, m3⟩ := hM d b hd hMM
    exact ⟨⟨hp.1, m2, m3⟩, m1, rfl⟩
  by_cases ht : toksL args = []
  · have hE : (!(toksL args).isEmpty) = false := by rw [ht]; rfl
    have hid : mapOwnL (lend true) args = args := mapOwnL_free (nice_fate _) args ht
    refine main (fun d b => R.M d b ∧ b ∉ R.φ ∧ ∀ k, R.ρ k ≠ some b) (fun b hb => ⟨hr.fr b hb, fun h => by have := hr.lt b h; omega, fun k h => by have := (hr.sep k b h).2; omega⟩) ?_ (fun d b _ h => h)
    rw [hid] at hok ⊢
    refine ⟨ha.1, fun i => Rd.okc (n := 0) (fun i b hi => (by omega)) (ha.2 i) false (fun d b _ hp hM => ⟨⟨hp.1, by simp, by simp⟩, ⟨hM, hp.2.1, hp.2.2⟩, rfl⟩) (okvL_getD hok i)⟩
  · have hE : (!(toksL args).isEmpty) = true := by cases h : toksL args <;> simp_all
    refine main (fun d b => d ≠ 0 ∨ (R.M 0 b ∧ b ∉ R.φ ∧ ∀ k, R.ρ k ≠ some b)) (fun b hb => .inr ⟨hr.fr b hb, fun h => by have := hr.lt b h; omega, fun k h => by have := (hr.sep k b h).2; omega⟩) ?_ (fun d b hd h => by
      obtain rfl := hd hE
      rcases h with h | h
      · exact absurd rfl h
      · exact h)
    rw [mapOwnL_eq] at hok ⊢
    -- first the names are turned, then the pointers are shown to be none
    refine .map_left rfl ha.1 fun i => ?_
    have h1 : Rd ⟨R.φ, fun _ => none, fun d b => d ≠ 0 ∨ (R.M 0 b ∧ ∀ k, R.ρ k ≠ some b), R.H⟩ (mapOwn (lend true) (args.getD i undef)) (cargs.getD i undef) := by
      refine Rd.fate (R := R) (R' := ⟨R.φ, fun _ => none, fun d b => d ≠ 0 ∨ (R.M 0 b ∧ ∀ k, R.ρ k ≠ some b), R.H⟩) ⟨fun i b h => h, fun b hb => ⟨⟨hb.1, hb.2.1, by simp⟩, rfl⟩, fun d b hb hM => ?_⟩ ⟨fun k b _ h => ?_, fun k b d hk hd => ?_, fun k b k' _ h => ?_⟩ (ha.2 i)
      · by_cases hd : d = 0
        · subst hd; exact .inr ⟨hM, hb.2.2⟩
        · exact .inl hd
      · simp at h
      · simp only [Bool.true_or, if_true, Fate.thaw.injEq] at hd
        subst hd
        exact ⟨⟨(hr.sep k b hk).2, (hr.sep k b hk).1, by simp⟩, .inl (by decide), rfl⟩
      · simp at h
    have hoki : okv 0 false (mapOwn (lend true) (args.getD i undef)) = true := by
      have := okvL_getD hok i
      rwa [getD_map_own] at this
    refine Rd.okc (n := 0) (fun i b hi => (by omega)) h1 false (fun d b _ hp hM => ⟨⟨hp.1, by simp, by simp⟩, ?_, rfl⟩) hoki
    rcases hM with h | ⟨h, h'⟩
    · exact .inl h
    · exact .inr ⟨h, hp.2.1, h'⟩
end
end Go.Proofs.YtmdpggecelheoaaDoor.Abs
