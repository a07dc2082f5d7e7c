/- More equations by which values with their slices are run. -/
import Derived.Test.YtmdpggecelheoaaDoorPW22
set_option linter.unusedVariables false
set_option linter.unusedSimpArgs false
namespace Go.Proofs.YtmdpggecelheoaaDoor.Abs
open Go
theorem getD_snoc (l : List Blk) (b d : Blk) : (l ++ [b]).getD l.length d = b := by simp [List.getD_eq_getElem?_getD]
theorem set_snoc (l : List Blk) (b b' : Blk) : (l ++ [b]).set l.length b' = l ++ [b'] := by rw [List.set_append, if_neg (by omega)]; simp
theorem getD_app (l m : List Blk) (k : Nat) (d : Blk) : (l ++ m).getD (l.length + k) d = m.getD k d := by rw [List.getD_eq_getElem?_getD, List.getElem?_append_right (by omega), List.getD_eq_getElem?_getD, Nat.add_sub_cancel_left]
theorem getD_app0 (l m : List Blk) (d : Blk) : (l ++ m).getD l.length d = m.getD 0 d := by rw [List.getD_eq_getElem?_getD, List.getElem?_append_right (by omega), List.getD_eq_getElem?_getD, Nat.sub_self]
theorem set_app (l m : List Blk) (k : Nat) (b : Blk) : (l ++ m).set (l.length + k) b = l ++ m.set k b := by rw [List.set_append, if_neg (by omega)]; simp
theorem set_app0 (l m : List Blk) (b : Blk) : (l ++ m).set l.length b = l ++ m.set 0 b := by rw [List.set_append, if_neg (by omega)]; simp
theorem tup_vs (d sz : Nat) (l : List Value) : isTup (vs d sz l) = false := _root_.id rfl
theorem tup_vo (k : Tok) (sz off : Nat) (l : List Value) : isTup (vo k sz off l) = false := _root_.id rfl
theorem cel_vs (d sz : Nat) (l : List Value) : (vs d sz l).cells = ⟨[vs d sz l]⟩ := _root_.id rfl
theorem cel_vo (k : Tok) (sz off : Nat) (l : List Value) : (vo k sz off l).cells = ⟨[vo k sz off l]⟩ := _root_.id rfl
/-- Cells that may lie anywhere: no own slices, nothing stale. -/
def cellF (n : Nat) (outer : Bool) (c : Value) : Bool := toks c == [] && !isTup c && okv n outer c
theorem cellsOk_free (n : Nat) (outer : Bool) (i o : Nat) (cs : List Value) (h : cs.all (cellF n outer) = true) : cellsOk n outer i o cs = true := by
  induction cs generalizing o with
  | nil => rfl
  | cons c cs ih =>
    simp only [List.all_cons, Bool.and_eq_true] at h
    have hc := h.1
    simp only [cellF, Bool.and_eq_true, beq_iff_eq] at hc
    have hn : ownTok c = none := ownTok_free hc.1.1
    simp only [cellsOk, Bool.and_eq_true, hn, and_true]
    refine ⟨?_, ih (o + 1) h.2⟩
    unfold cellOk
    split
    · rename_i hv; unfold ownTok at hn; rw [hv] at hn; cases hn
    · exact h.1
theorem Hold_5 {α β γ δ ε ζ : Type} {K : α → β → γ → δ → ε → ζ} {t : Tag K} (a : α) (b : β) (c : γ) (d : δ) (e : ε) : Hold K t a b c d e = K a b c d e := _root_.id rfl
/-! A function that is known: what it tells is put in its call's place. -/
section
variable {P : Program} {X : VOuter}
/-- A call without pointers tells r. -/
def Vp (P : Program) (X : VOuter) (f : FuncId) (args : List Value) (r : Value) : Prop := Vf P X f args [] fun v ws => ws = [] ∧ v = r
theorem Vf_det {f : FuncId} {args : List Value} {B : List Blk} {r : Value} {w : List (Nat × Blk)} {Q : Value → List (Nat × Blk) → Prop} (h : Vf P X f args B fun v ws => ws = w ∧ v = r) : Vf P X f args B Q = Q r w := by
  obtain ⟨n, x, h1, rfl, rfl⟩ := h
  refine propext ⟨?_, fun hq => ⟨n, x, h1, hq⟩⟩
  rintro ⟨m, y, h2, hq⟩
  have e1 := vrun_mono n (max n m) (Nat.le_max_left _ _) _ _ _ _ h1
  have e2 := vrun_mono m (max n m) (Nat.le_max_right _ _) _ _ _ _ h2
  rw [e1] at e2
  cases e2
  exact hq
theorem Vcallee_of {f : FuncId} {args args' : List Value} {S : VH} {K : VCont} {r : Value} (h : Vp P X f args' r) (ha : mapOwnL (lend true) args = args') (h1 : okvL 0 false args' = true) (h2 : okv 0 (!(toksL args).isEmpty) r = true) : Vcallee P X f args S K = K r [] S [] false := by
  rw [Vcallee_eq, ha, if_pos h1, Vf_det h]
  simp [h2]
/-- A loop, gone through once. -/
theorem Vc_unroll {c : Code} {e : Env} {S : VH} {Q : Ex → Env → VH → Prop} (h : VWP P X c e S fun x e' S' => match x with | .normal => Vc P X (.loop c) e' S' Q | x => Q x e' S') : Vc P X (.loop c) e S Q := by
  obtain ⟨n, ⟨x, e', S'⟩, h1, h2⟩ := VWP_Vc _ _ _ _ h
  cases x with
  | normal =>
    obtain ⟨m, r, h3, h4⟩ := h2
    simp only [vrunC] at h3
    refine ⟨max n m + 1, r, ?_, h4⟩
    simp only [vrunC, viter]
    rw [vrunC_mono (vrun_mono n _ (by omega)) (by omega) _ _ _ _ h1]
    exact viter_mono (fun e H r hr => vrunC_mono (vrun_mono m _ (by omega)) (by omega) _ _ _ _ hr) m _ (by omega) _ _ _ h3
  | exit id =>
    refine ⟨n + 1, (.exit id, e', S'), ?_, h2⟩
    simp only [vrunC, viter]
    rw [vrunC_mono (vrun_mono n _ (by omega)) (by omega) _ _ _ _ h1]
    rfl
  | ret =>
    refine ⟨n + 1, (.ret, e', S'), ?_, h2⟩
    simp only [vrunC, viter]
    rw [vrunC_mono (vrun_mono n _ (by omega)) (by omega) _ _ _ _ h1]
    rfl
/-! Functions that nothing is given from outside for. -/
def XOff (ext : List FuncId) (X : VOuter) : Prop := ∀ f, ext.contains f = false → X f = none
def extX (ext : List FuncId) : VOuter := fun f => if ext.contains f then some fun _ _ => none else none
theorem vrun_ext {ext : List FuncId} {X : VOuter} (hX : XOff ext X) : ∀ n, VCall.le (vrun P (extX ext) n) (vrun P X n)
  | 0 => fun f a B r hr => by simp [vrun] at hr
  | n + 1 => fun f a B r hr => by
    have ih := vrun_ext hX n
    simp only [vrun] at hr ⊢
    by_cases he : ext.contains f = true
    · simp only [extX, he, if_true] at hr; cases hr
    · have he' : ext.contains f = false := by simpa using he
      simp only [extX, he', Bool.false_eq_true, if_false] at hr
      rw [hX f he']
      simp only
      split at hr
      · cases hr
      · split at hr
        · cases hr
        · split at hr
          · rename_i hok
            rw [if_pos hok]
            simp only [Option.bind_eq_some_iff] at hr ⊢
            obtain ⟨x, hx, hr⟩ := hr
            exact ⟨x, vrunC_mono ih (Nat.le_refl _) _ _ _ _ hx, hr⟩
          · cases hr
def closedB (P : Program) (ext : List FuncId) (n : Nat) (f : FuncId) (args : List Value) (r : Value) : Bool := match vrun P (extX ext) n f args [] with
  | some (v, []) => vbeq v r
  | _ => false
/-- A call that the kernel runs. -/
theorem Vp_closed {ext : List FuncId} (hX : XOff ext X) (n : Nat) {f : FuncId} {args : List Value} {r : Value} (h : closedB P ext n f args r = true) : Vp P X f args r := by
  unfold closedB at h
  split at h
  · rename_i v hv
    exact ⟨n, (v, []), vrun_ext hX n _ _ _ _ hv, rfl, vbeq_eq _ _ h⟩
  · cases h
theorem Vp_congr {f : FuncId} {args : List Value} {r r' : Value} (h : Vp P X f args r) (e : r = r') : Vp P X f args r' := e ▸ h
end
end Go.Proofs.YtmdpggecelheoaaDoor.Abs
/- Slices that are nil when they are empty, or not: what is done with them. -/
set_option linter.unusedVariables false
set_option linter.unusedSimpArgs false
namespace Go.Proofs.YtmdpggecelheoaaDoor.Abs
open Go
theorem ibeq (a b : Int) : (a == b) = decide (a = b) := by rw [Bool.eq_iff_iff]; simp
theorem ibne (a b : Int) : (a != b) = !decide (a = b) := by rw [bne, ibeq]
/-- A row that is read; c: it is nil when it is empty. -/
def sl (c : Bool) (d sz : Nat) (l : List Value) : Value := if c && l.isEmpty then .slice none 0 0 else vs d sz l
/-- An own row; c: it is nil when it is empty. -/
def ol (c : Bool) (k : Tok) (sz : Nat) (l : List Value) : Value := if c && l.isEmpty then .slice none 0 0 else vo k sz 0 l
theorem sl_cases (c : Bool) (d sz : Nat) (l : List Value) : (l = [] ∧ c = true ∧ sl c d sz l = .slice none 0 0) ∨ ((c && l.isEmpty) = false ∧ sl c d sz l = vs d sz l) := by
  unfold sl
  cases c <;> cases l <;> simp
theorem ol_cases (c : Bool) (k : Tok) (sz : Nat) (l : List Value) : (l = [] ∧ c = true ∧ ol c k sz l = .slice none 0 0) ∨ ((c && l.isEmpty) = false ∧ ol c k sz l = vo k sz 0 l) := by
  unfold ol
  cases c <;> cases l <;> simp
theorem slice0_sl (d sz : Nat) : Value.slice none 0 0 = sl true d sz [] := _root_.id rfl
theorem slice0_ol (k : Tok) (sz : Nat) : Value.slice none 0 0 = ol true k sz [] := _root_.id rfl
theorem vs_sl (d sz : Nat) (l : List Value) : vs d sz l = sl false d sz l := by simp [sl]
theorem vo_ol (k : Tok) (sz : Nat) (l : List Value) : vo k sz 0 l = ol false k sz l := by simp [ol]
theorem toks_sl (c : Bool) (d sz : Nat) (l : List Value) : toks (sl c d sz l) = [] := by rcases sl_cases c d sz l with ⟨_, _, h⟩ | ⟨_, h⟩ <;> rw [h] <;> rfl
theorem mapOwn_sl (f : Tok → Fate) (c : Bool) (d sz : Nat) (l : List Value) : mapOwn (fate f) (sl c d sz l) = sl c d sz l := mapOwn_free (nice_fate f) _ (toks_sl c d sz l)
theorem thaw_sl (ks : List Tok) (c : Bool) (d sz : Nat) (l : List Value) : mapOwn (thaw ks) (sl c d sz l) = sl c d sz l := mapOwn_sl _ c d sz l
theorem scrub_sl (k : Tok) (c : Bool) (d sz : Nat) (l : List Value) : mapOwn (scrub k) (sl c d sz l) = sl c d sz l := mapOwn_sl _ c d sz l
theorem thawAll_sl (c : Bool) (d sz : Nat) (l : List Value) : mapOwn thawAll (sl c d sz l) = sl c d sz l := mapOwn_sl _ c d sz l
theorem lend_sl (b : Bool) (c : Bool) (d sz : Nat) (l : List Value) : mapOwn (lend b) (sl c d sz l) = sl c d sz l := mapOwn_sl _ c d sz l
theorem drop_sl (is : List Nat) (c : Bool) (d sz : Nat) (l : List Value) : mapOwn (dropBoxes is) (sl c d sz l) = sl c d sz l := mapOwn_sl _ c d sz l
theorem okv_sl (n : Nat) (c : Bool) (d sz : Nat) (l : List Value) : okv n false (sl c d sz l) = true := by rcases sl_cases c d sz l with ⟨_, _, h⟩ | ⟨_, h⟩ <;> rw [h] <;> rfl
theorem okv_sl0 (n : Nat) (st : Bool) (c : Bool) (sz : Nat) (l : List Value) : okv n st (sl c 0 sz l) = true := by rcases sl_cases c 0 sz l with ⟨_, _, h⟩ | ⟨_, h⟩ <;> rw [h] <;> cases st <;> rfl
theorem tup_sl (c : Bool) (d sz : Nat) (l : List Value) : isTup (sl c d sz l) = false := by rcases sl_cases c d sz l with ⟨_, _, h⟩ | ⟨_, h⟩ <;> rw [h] <;> rfl
theorem cel_sl (c : Bool) (d sz : Nat) (l : List Value) : (sl c d sz l).cells = ⟨[sl c d sz l]⟩ := by rcases sl_cases c d sz l with ⟨_, _, h⟩ | ⟨_, h⟩ <;> rw [h] <;> rfl
theorem cellV_sl (c : Bool) (d sz : Nat) (l : List Value) : cellV (sl c d sz l) = some (sl c d sz l) := by rcases sl_cases c d sz l with ⟨_, _, h⟩ | ⟨_, h⟩ <;> rw [h] <;> rfl
theorem isAggV_sl (c : Bool) (d sz : Nat) (l : List Value) : isAggV (sl c d sz l) = false := by rcases sl_cases c d sz l with ⟨_, _, h⟩ | ⟨_, h⟩ <;> rw [h] <;> rfl
theorem velems_sl (c : Bool) (d sz : Nat) (l : List Value) : velems sz (sl c d sz l) = some l := by
  rcases sl_cases c d sz l with ⟨h1, _, h⟩ | ⟨_, h⟩
  · rw [h, h1]; rfl
  · rw [h]; exact velems_ro d sz l
theorem toks_ol (c : Bool) (k : Tok) (sz : Nat) (l : List Value) : toks (ol c k sz l) = if c && l.isEmpty then [] else [k] := by unfold ol; split <;> rfl
theorem thawAll_ol (c : Bool) (k : Tok) (sz : Nat) (l : List Value) : mapOwn thawAll (ol c k sz l) = sl c 0 sz l := by unfold ol sl; split <;> rfl
theorem lend_ol (c : Bool) (k : Tok) (sz : Nat) (l : List Value) : mapOwn (lend true) (ol c k sz l) = sl c 1 sz l := by unfold ol sl; split <;> rfl
theorem thaw_ol (ks : List Tok) (c : Bool) (k : Tok) (sz : Nat) (l : List Value) : mapOwn (thaw ks) (ol c k sz l) = if k ∈ ks then sl c 0 sz l else ol c k sz l := by
  unfold ol sl
  split
  · simp [mapOwn_slice]
  · rw [mapOwn_vo, thaw_own]
theorem scrub_ol (k' : Tok) (c : Bool) (k : Tok) (sz : Nat) (l : List Value) (h : k ≠ k') : mapOwn (scrub k') (ol c k sz l) = ol c k sz l := by
  unfold ol
  split
  · rfl
  · rw [mapOwn_vo, scrub_own, if_neg h]
theorem tup_ol (c : Bool) (k : Tok) (sz : Nat) (l : List Value) : isTup (ol c k sz l) = false := by unfold ol; split <;> rfl
theorem cel_ol (c : Bool) (k : Tok) (sz : Nat) (l : List Value) : (ol c k sz l).cells = ⟨[ol c k sz l]⟩ := by unfold ol; split <;> rfl
theorem velems_ol (c : Bool) (k : Tok) (sz : Nat) (l : List Value) : velems sz (ol c k sz l) = some l := by
  rcases ol_cases c k sz l with ⟨h1, _, h⟩ | ⟨_, h⟩
  · rw [h, h1]; rfl
  · rw [h]; exact velems_own k sz 0 l
theorem thaw_tok0 (S : VH) (c : Bool) (d sz : Nat) (l : List Value) : S.thaw (if c && l.isEmpty then [] else [(d, none)]) = S := by split <;> rfl
theorem thaw_tok1 (S : VH) (b : Bool) (d : Nat) : S.thaw (if b then [] else [(d, none)]) = S := by split <;> rfl
/-- What becomes of the names when a row grows that may have been nil. -/
def growT (nil : Bool) (k : Tok) : Turn := if nil then thaw [k] else scrub k
theorem nice_growT (b : Bool) (k : Tok) : Nice (growT b k) := by unfold growT; split <;> exact nice_fate _
theorem growT_sl (b : Bool) (k : Tok) (c : Bool) (d sz : Nat) (l : List Value) : mapOwn (growT b k) (sl c d sz l) = sl c d sz l := mapOwn_free (nice_growT b k) _ (toks_sl c d sz l)
theorem growT_ro (b : Bool) (k : Tok) (d sz : Nat) (l : List Value) (v : Value) : growT b k (.ro d sz l) v = v := by unfold growT; split <;> rfl
theorem growT_at (b : Bool) (k : Tok) (x v : Value) : growT b k (.at x) v = v := by unfold growT; split <;> rfl
theorem growT_ol (b : Bool) (k' : Tok) (c : Bool) (k : Tok) (sz : Nat) (l : List Value) (h : k ≠ k') : mapOwn (growT b k') (ol c k sz l) = ol c k sz l := by
  unfold growT
  split
  · rw [thaw_ol, if_neg]; simpa using h
  · exact scrub_ol k' c k sz l h
theorem vgrow_ol (d sz bytes : Nat) (a : Value) (m l : List Value) (S : VH) : vgrow d sz bytes (ol true (d, none) sz l) (a :: m) S =
    if (l.length + (m.length + 1)) * bytes ≤ 140737488355328 ∧ l.length + (m.length + 1) ≤ 9223372036854775807 then some ⟨ol true (d, none) sz (l ++ a :: m), [growT l.isEmpty (d, none)], S, [], !l.isEmpty⟩ else none := by
  cases l with
  | nil =>
    show vgrow d sz bytes (.slice none 0 0) (a :: m) S = _
    rw [vgrow_nil]
    simp [ol, growT]
  | cons x l =>
    have h1 : ol true (d, none) sz (x :: l) = vo (d, none) sz 0 (x :: l) := by simp [ol]
    have h2 : ol true (d, none) sz (x :: l ++ a :: m) = vo (d, none) sz 0 (x :: l ++ a :: m) := by simp [ol]
    rw [h1, h2, vgrow_own]
    rfl
section
variable {P : Program} {S : VH} {t el : TypeId} {sz : Nat}
theorem vix_sl (h : elemT P t = some el) (hs : szT P el = some sz) (c : Bool) (d : Nat) (l : List Value) (k : IntKind) (j : Int) : vindexAddr P t (sl c d sz l) (.int k j) = if 0 ≤ j then (l[j.toNat]?).map vp else none := by
  rcases sl_cases c d sz l with ⟨h1, _, h2⟩ | ⟨_, h2⟩
  · rw [h2, h1]
    show none = _
    simp
  · rw [h2]; exact vix_ro h hs d l k j
theorem vix_ol (h : elemT P t = some el) (hs : szT P el = some sz) (c : Bool) (q : Tok) (l : List Value) (k : IntKind) (j : Int) : vindexAddr P t (ol c q sz l) (.int k j) = if 0 ≤ j then (l[j.toNat]?).map (vq q j.toNat) else none := by
  rcases ol_cases c q sz l with ⟨h1, _, h2⟩ | ⟨_, h2⟩
  · rw [h2, h1]
    show none = _
    simp
  · rw [h2, vix_own h hs q 0 l k j]; simp
theorem vlen_sl (h : elemT P t = some el) (c : Bool) (d sz : Nat) (l : List Value) : vlen P t (sl c d sz l) = some (.int .i64 l.length) := by
  rcases sl_cases c d sz l with ⟨h1, _, h2⟩ | ⟨_, h2⟩
  · rw [h2, h1]; exact vlen_nil h
  · rw [h2]; exact vlen_ro h d sz l
theorem vlen_ol (h : elemT P t = some el) (c : Bool) (q : Tok) (sz : Nat) (l : List Value) : vlen P t (ol c q sz l) = some (.int .i64 l.length) := by
  rcases ol_cases c q sz l with ⟨h1, _, h2⟩ | ⟨_, h2⟩
  · rw [h2, h1]; exact vlen_nil h
  · rw [h2]; exact vlen_own h q sz 0 l
theorem vcut_sl (h : elemT P t = some el) (hs : szT P el = some sz) (c : Bool) (d : Nat) (l : List Value) (lo hi : Option Value) : vcut P t (sl c d sz l) lo hi none = (abound hi l.length).bind fun h => (abound lo 0).bind fun b => if 0 ≤ b ∧ b ≤ h ∧ h ≤ l.length then some (sl (c && l.isEmpty) d sz ((l.drop b.toNat).take (h - b).toNat)) else none := by
  rcases sl_cases c d sz l with ⟨h1, h3, h2⟩ | ⟨h3, h2⟩
  · rw [h2, h1, vcut_nil h hs]
    simp [h3, sl]
  · rw [h2, vcut_ro h hs, h3]
    simp [sl]
end
end Go.Proofs.YtmdpggecelheoaaDoor.Abs
/- Steps of regions that draw their order. -/
set_option linter.unusedVariables false
set_option linter.unusedSimpArgs false
namespace Go.Proofs.YtmdpggecelheoaaDoor.Abs
open Go
section
variable {P : Program} {X : VOuter} {ops : Array Oper} {S0 S : VH} {e es : Env} {rest : List Oper} {T : List (List Nat)} {Hs : List (List Nat × Bool)} {ob : List VObl} {Q : Env → VH → Prop} {op : Op} {ty : TypeId} {pos : String} {af : Array Edge} {g : Option (Nat × Bool)} {d : Tmp} {sd : Bool} {k : Nat} {ks : List Nat}
/-- What is known at the beginning is kept only where it is asked. -/
def shadeS (sd : Bool) (P : Program) (o : Oper) (es : Env) (S0 : VH) (Hs : List (List Nat × Bool)) : Env := if sd then eput es o.dst (vshade P o es S0 Hs) else es
theorem VE_nil : VE P X ops sd S0 T [] es e S Hs ob Q = (ob.all (vspan Hs.reverse) = true ∧ Q e S) := by cases T <;> rfl
theorem vstp_with {o : Oper} {K : VCont} : (With (awanted ops o e) fun _ => VStp P X ops o e S K) = VStp P X ops o e S K := by
  cases h : awanted ops o e with
  | none => simp only [VStp, h, With]
  | some w => unfold With; rfl
theorem VE_one0 : VE P X ops sd S0 ([] :: T) (⟨some d, op, ty, pos, af, g⟩ :: rest) es e S Hs ob Q = VStp P X ops ⟨some d, op, ty, pos, af, g⟩ e S fun v gg S' ws kf => VE P X ops sd S0 T rest (shadeS sd P ⟨some d, op, ty, pos, af, g⟩ es S0 Hs) (eset (emap gg e) d v) S' (if light P op then Hs else (ws, kf) :: Hs) ob Q := by
  simp only [VE, if_true]
  refine Eq.trans ?_ vstp_with
  rfl
theorem VE_non0 : VE P X ops sd S0 ([] :: T) (⟨none, op, ty, pos, af, g⟩ :: rest) es e S Hs ob Q = VStp P X ops ⟨none, op, ty, pos, af, g⟩ e S fun v gg S' ws kf => VE P X ops sd S0 T rest (shadeS sd P ⟨none, op, ty, pos, af, g⟩ es S0 Hs) (emap gg e) S' (if light P op then Hs else (ws, kf) :: Hs) ob Q := by
  simp only [VE, if_true]
  refine Eq.trans ?_ vstp_with
  rfl
theorem VE_one1 : VE P X ops sd S0 ((k :: ks) :: T) (⟨some d, op, ty, pos, af, none⟩ :: rest) es e S Hs ob Q = With (vobl ⟨some d, op, ty, pos, af, none⟩ (k :: ks) Hs.length (sd && !isGone (vshade P ⟨some d, op, ty, pos, af, none⟩ es S0 Hs)) e) (Hold fun nb => VStp P X ops ⟨some d, op, ty, pos, af, none⟩ e S fun v gg S' ws kf => VE P X ops sd S0 T rest (shadeS sd P ⟨some d, op, ty, pos, af, none⟩ es S0 Hs) (eset (emap gg e) d v) S' (if light P op then Hs else (ws, kf) :: Hs) (nb ++ ob) Q) := by
  simp only [VE, awanted, reduceCtorEq, if_false]
  rfl
theorem VE_one1g (j : Nat) (want : Bool) : VE P X ops sd S0 ((k :: ks) :: T) (⟨some d, op, ty, pos, af, some (j, want)⟩ :: rest) es e S Hs ob Q = With (ayielded ops e j want) (Hold fun w => With (if w = false then some [⟨k :: ks, Hs.length, .ro⟩] else vobl ⟨some d, op, ty, pos, af, some (j, want)⟩ (k :: ks) Hs.length (sd && !isGone (vshade P ⟨some d, op, ty, pos, af, none⟩ es S0 Hs)) e) (Hold fun nb => VStp P X ops ⟨some d, op, ty, pos, af, some (j, want)⟩ e S fun v gg S' ws kf => VE P X ops sd S0 T rest (shadeS sd P ⟨some d, op, ty, pos, af, some (j, want)⟩ es S0 Hs) (eset (emap gg e) d v) S' (if light P op then Hs else (ws, kf) :: Hs) (nb ++ ob) Q)) := by
  simp only [VE, awanted, reduceCtorEq, if_false]
  rfl
theorem shade_off {o : Oper} : shadeS false P o es S0 Hs = es := _root_.id rfl
theorem shade_one : shadeS true P ⟨some d, op, ty, pos, af, g⟩ es S0 Hs = eset es d (vshade P ⟨some d, op, ty, pos, af, g⟩ es S0 Hs) := _root_.id rfl
theorem shade_non : shadeS true P ⟨none, op, ty, pos, af, g⟩ es S0 Hs = es := _root_.id rfl
theorem shade_heavy (dd : Option Tmp) (h : light P op = false) : vshade P ⟨dd, op, ty, pos, af, g⟩ es S0 Hs = gone := by
  unfold vshade
  rw [if_neg]
  rintro ⟨h1, _⟩
  rw [h] at h1; cases h1
theorem shade_guard (dd : Option Tmp) (q : Nat × Bool) : vshade P ⟨dd, op, ty, pos, af, some q⟩ es S0 Hs = gone := by
  unfold vshade
  rw [if_neg]
  rintro ⟨_, h1⟩
  cases h1
theorem shade_load (dd : Option Tmp) (t : TypeId) (a : Operand) : vshade P ⟨dd, .load t a, ty, pos, af, none⟩ es S0 Hs = match vload P t (aeval es a) S0 with | some v => (match depOf (aeval es a) with | some d => if Hs.all (depStep d) then v else gone | none => gone) | none => gone := by
  unfold vshade
  rw [if_pos ⟨rfl, rfl⟩]
  rfl
theorem shade_lt (dd : Option Tmp) (h : light P op = true) (h2 : ∀ t a, op ≠ .load t a) (h3 : ∀ t u a, op ≠ .convert t u a) : vshade P ⟨dd, op, ty, pos, af, none⟩ es S0 Hs = (vlop P (aeval es) S0 op).getD gone := by
  unfold vshade
  rw [if_pos ⟨h, rfl⟩]
  cases hv : vlop P (aeval es) S0 op with
  | none => rfl
  | some v =>
    cases op
    case load t a => exact absurd rfl (h2 _ _)
    case convert t u a => exact absurd rfl (h3 _ _ _)
    all_goals rfl
theorem shade_move (dd : Option Tmp) (x : Operand) : vshade P ⟨dd, .move x, ty, pos, af, none⟩ es S0 Hs = aeval es x := shade_lt dd rfl (by simp) (by simp)
theorem shade_assign (dd : Option Tmp) (x : Operand) : vshade P ⟨dd, .assign x, ty, pos, af, none⟩ es S0 Hs = aeval es x := shade_lt dd rfl (by simp) (by simp)
theorem shade_fieldAddr (dd : Option Tmp) (t : TypeId) (x : Operand) (i : Nat) : vshade P ⟨dd, .fieldAddr t x i, ty, pos, af, none⟩ es S0 Hs = (vfield P t (aeval es x) i).getD gone := shade_lt dd rfl (by simp) (by simp)
theorem shade_indexAddr (dd : Option Tmp) (t : TypeId) (x i : Operand) : vshade P ⟨dd, .indexAddr t x i, ty, pos, af, none⟩ es S0 Hs = (vindexAddr P t (aeval es x) (aeval es i)).getD gone := shade_lt dd rfl (by simp) (by simp)
theorem shade_binOp (dd : Option Tmp) (o : BinOp) (t u : TypeId) (x y : Operand) : vshade P ⟨dd, .binOp o t x y u, ty, pos, af, none⟩ es S0 Hs = (vbin P o t x y (aeval es x) (aeval es y)).getD gone := shade_lt dd rfl (by simp) (by simp)
theorem shade_unOp (dd : Option Tmp) (o : UnOp) (t : TypeId) (x : Operand) : vshade P ⟨dd, .unOp o t x, ty, pos, af, none⟩ es S0 Hs = (lop P (aeval es) ⟨0, .tip⟩ (.unOp o t x)).getD gone := shade_lt dd rfl (by simp) (by simp)
theorem shade_pick (dd : Option Tmp) (a b c : Operand) : vshade P ⟨dd, .pick a b c, ty, pos, af, none⟩ es S0 Hs = (lop P (aeval es) ⟨0, .tip⟩ (.pick a b c)).getD gone := shade_lt dd rfl (by simp) (by simp)
theorem shade_extract (dd : Option Tmp) (x : Operand) (i : Nat) : vshade P ⟨dd, .extract x i, ty, pos, af, none⟩ es S0 Hs = (lop P (aeval es) ⟨0, .tip⟩ (.extract x i)).getD gone := shade_lt dd rfl (by simp) (by simp)
theorem shade_field (dd : Option Tmp) (t : TypeId) (x : Operand) (i : Nat) : vshade P ⟨dd, .field t x i, ty, pos, af, none⟩ es S0 Hs = (lop P (aeval es) ⟨0, .tip⟩ (.field t x i)).getD gone := shade_lt dd rfl (by simp) (by simp)
theorem shade_build (dd : Option Tmp) (t : TypeId) (ps : Array (Nat × Operand)) : vshade P ⟨dd, .build t ps, ty, pos, af, none⟩ es S0 Hs = (lop P (aeval es) ⟨0, .tip⟩ (.build t ps)).getD gone := shade_lt dd rfl (by simp) (by simp)
theorem shade_len (dd : Option Tmp) (x : Operand) (t : TypeId) : vshade P ⟨dd, .call ⟨.builtin .len, #[x], #[t]⟩, ty, pos, af, none⟩ es S0 Hs = (vlen P t (aeval es x)).getD gone := shade_lt dd rfl (by simp) (by simp)
theorem shade_convert (dd : Option Tmp) (t u : TypeId) (x : Operand) : vshade P ⟨dd, .convert t u x, ty, pos, af, g⟩ es S0 Hs = gone := by
  unfold vshade
  split
  · cases vlop P (aeval es) S0 (.convert t u x) <;> rfl
  · rfl
theorem shade_call (dd : Option Tmp) (f : Operand) (a : Array Operand) (ts : Array TypeId) : vshade P ⟨dd, .call ⟨.value f, a, ts⟩, ty, pos, af, g⟩ es S0 Hs = gone := shade_heavy dd rfl
theorem shade_append (dd : Option Tmp) (a : Array Operand) (ts : Array TypeId) : vshade P ⟨dd, .call ⟨.builtin .append, a, ts⟩, ty, pos, af, g⟩ es S0 Hs = gone := shade_heavy dd rfl
theorem shade_buildSlice (dd : Option Tmp) (t : TypeId) (n : Nat) (ps : Array (Nat × Operand)) : vshade P ⟨dd, .buildSlice t n ps, ty, pos, af, g⟩ es S0 Hs = gone := shade_heavy dd rfl
theorem shade_alloc (dd : Option Tmp) (t : TypeId) : vshade P ⟨dd, .alloc t, ty, pos, af, g⟩ es S0 Hs = gone := shade_heavy dd rfl
theorem shade_box (dd : Option Tmp) (t : TypeId) (x : Operand) : vshade P ⟨dd, .box t x, ty, pos, af, g⟩ es S0 Hs = gone := shade_heavy dd rfl
theorem vobl_load (dd : Option Tmp) (t : TypeId) (a : Operand) (sh : Bool) (at' : Nat) : vobl ⟨dd, .load t a, ty, pos, af, g⟩ ks at' sh e = (depOf (aeval e a)).bind fun d => if sh || ks.all (fun k => decide (at' ≤ k)) then some [⟨ks, at', d⟩] else none := _root_.id rfl
theorem dep_box (a : Addr) : depOf (.pointer (some a)) = some (.box a.block) := _root_.id rfl
theorem dep_at (x : Value) : depOf (vp x) = some .ro := _root_.id rfl
theorem isGone_gone : isGone gone = true := _root_.id rfl
theorem isGone_int (k : IntKind) (n : Int) : isGone (.int k n) = false := _root_.id rfl
theorem isGone_agg (a : Array Value) : isGone (.agg a) = false := _root_.id rfl
theorem isGone_bool (b : Bool) : isGone (.bool b) = false := _root_.id rfl
theorem isGone_string (b : ByteArray) : isGone (.string b) = false := _root_.id rfl
theorem depStep_box (n : Nat) (ws : List Nat) (kf : Bool) : depStep (.box n) (ws, kf) = (ws.all fun i => !(i == n)) := by
  unfold depStep
  show (!ws.contains n) = _
  rw [Bool.eq_iff_iff]
  simp only [Bool.not_eq_true', List.contains_eq_mem, decide_eq_false_iff_not, List.all_eq_true, beq_eq_false_iff_ne]
  exact ⟨fun h x hx e => h (e ▸ hx), fun h hn => h n hn rfl⟩
end
end Go.Proofs.YtmdpggecelheoaaDoor.Abs
