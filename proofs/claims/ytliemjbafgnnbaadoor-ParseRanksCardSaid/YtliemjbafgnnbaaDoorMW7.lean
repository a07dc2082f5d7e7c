/- More equations by which values with their slices are run. -/
import Derived.Test.YtliemjbafgnnbaaDoorPW22
set_option maxHeartbeats 0
set_option linter.defProp false
set_option linter.unusedSimpArgs false
set_option linter.unusedVariables false
namespace Go.Proofs.YtliemjbafgnnbaaDoor.Abs
open Go
theorem zazz (l m : List Blk) (k : Nat) (d : Blk) : (l ++ m).getD (l.length + k) d = m.getD k d := by rw [List.getD_eq_getElem?_getD, List.getElem?_append_right (by omega), List.getD_eq_getElem?_getD, Nat.add_sub_cancel_left]
theorem zavc (l m : List Blk) (d : Blk) : (l ++ m).getD l.length d = m.getD 0 d := by rw [List.getD_eq_getElem?_getD, List.getElem?_append_right (by omega), List.getD_eq_getElem?_getD, Nat.sub_self]
theorem za2u (l m : List Blk) (k : Nat) (b : Blk) : (l ++ m).set (l.length + k) b = l ++ m.set k b := by rw [List.set_append, if_neg (by omega)]; simp
theorem za0q (l m : List Blk) (b : Blk) : (l ++ m).set l.length b = l ++ m.set 0 b := by rw [List.set_append, if_neg (by omega)]; simp
theorem tup_vs (d sz : Nat) (l : List Value) : isTup (vs d sz l) = false := _root_.id rfl
theorem tup_vo (k : Tok) (sz off : Nat) (l : List Value) : isTup (vo k sz off l) = false := _root_.id rfl
theorem cel_vs (d sz : Nat) (l : List Value) : (vs d sz l).cells = ⟨[vs d sz l]⟩ := _root_.id rfl
theorem cel_vo (k : Tok) (sz off : Nat) (l : List Value) : (vo k sz off l).cells = ⟨[vo k sz off l]⟩ := _root_.id rfl
def cellF (n : Nat) (outer : Bool) (c : Value) : Bool := toks c == [] && !isTup c && okv n outer c
theorem zail (n : Nat) (outer : Bool) (i o : Nat) (cs : List Value) (h : cs.all (cellF n outer) = true) : cellsOk n outer i o cs = true := by
 induction cs generalizing o with
 | nil => rfl
 | cons c cs ih =>
  simp only [List.all_cons, Bool.and_eq_true] at h
  have hc := h.1
  simp only [cellF, Bool.and_eq_true, beq_iff_eq] at hc
  have hn : ownTok c = none := zacq hc.1.1
  simp only [cellsOk, Bool.and_eq_true, hn, and_true]
  refine ⟨?_, ih (o + 1) h.2⟩
  unfold cellOk
  split
  ·rename_i hv; unfold ownTok at hn; rw [hv] at hn; cases hn
  ·exact h.1
theorem Hold_5 {α β γ δ ε ζ : Type} {K : α → β → γ → δ → ε → ζ} {t : Tag K} (a : α) (b : β) (c : γ) (d : δ) (e : ε) : Hold K t a b c d e = K a b c d e := _root_.id rfl
section
variable {P : Program} {X : VOuter}
def Vp (P : Program) (X : VOuter) (f : FuncId) (args : List Value) (r : Value) : Prop := Vf P X f args [] fun v ws => ws = [] ∧ v = r
theorem Vf_det {f : FuncId} {args : List Value} {B : List Blk} {r : Value} {w : List (Nat × Blk)} {Q : Value → List (Nat × Blk) → Prop} (h : Vf P X f args B fun v ws => ws = w ∧ v = r) : Vf P X f args B Q = Q r w := by
 obtain ⟨n, x, h1, rfl, rfl⟩ := h
 refine propext ⟨?_, fun hq => ⟨n, x, h1, hq⟩⟩
 rintro ⟨m, y, h2, hq⟩
 have e1 := zabm n (max n m) (Nat.le_max_left _ _) _ _ _ _ h1
 have e2 := zabm m (max n m) (Nat.le_max_right _ _) _ _ _ _ h2
 rw [e1] at e2
 cases e2
 exact hq
theorem zaac {f : FuncId} {args args' : List Value} {S : VH} {K : VCont} {r : Value} (h : Vp P X f args' r) (ha : mapOwnL (lend true) args = args') (h1 : okvL 0 false args' = true) (h2 : okv 0 (!(toksL args).isEmpty) r = true) : Vcallee P X f args S K = K r [] S [] false := by
 rw [zag3, ha, if_pos h1, Vf_det h]
 simp [h2]
theorem zaun {c : Code} {e : Env} {S : VH} {Q : Ex → Env → VH → Prop} (h : VWP P X c e S fun x e' S' => match x with | .normal => Vc P X (.loop c) e' S' Q | x => Q x e' S') : Vc P X (.loop c) e S Q := by
 obtain ⟨n, ⟨x, e', S'⟩, h1, h2⟩ := VWP_Vc _ _ _ _ h
 cases x with
 | normal =>
  obtain ⟨m, r, h3, h4⟩ := h2
  simp only [vrunC] at h3
  refine ⟨max n m + 1, r, ?_, h4⟩
  simp only [vrunC, viter]
  rw [zaco (zabm n _ (by omega)) (by omega) _ _ _ _ h1]
  exact zaho (fun e H r hr => zaco (zabm m _ (by omega)) (by omega) _ _ _ _ hr) m _ (by omega) _ _ _ h3
 | exit id =>
  refine ⟨n + 1, (.exit id, e', S'), ?_, h2⟩
  simp only [vrunC, viter]
  rw [zaco (zabm n _ (by omega)) (by omega) _ _ _ _ h1]
  rfl
 | ret =>
  refine ⟨n + 1, (.ret, e', S'), ?_, h2⟩
  simp only [vrunC, viter]
  rw [zaco (zabm n _ (by omega)) (by omega) _ _ _ _ h1]
  rfl
end
end Go.Proofs.YtliemjbafgnnbaaDoor.Abs
/- Slices that are nil when they are empty, or not: what is done with them. -/
namespace Go.Proofs.YtliemjbafgnnbaaDoor.Abs
open Go
theorem ibeq (a b : Int) : (a == b) = decide (a = b) := by rw [Bool.eq_iff_iff]; simp
theorem ibne (a b : Int) : (a != b) = !decide (a = b) := by rw [bne, ibeq]
def sl (c : Bool) (d sz : Nat) (l : List Value) : Value := if c && l.isEmpty then .slice none 0 0 else vs d sz l
def ol (c : Bool) (k : Tok) (sz : Nat) (l : List Value) : Value := if c && l.isEmpty then .slice none 0 0 else vo k sz 0 l
theorem zaer (c : Bool) (d sz : Nat) (l : List Value) : (l = [] ∧ c = true ∧ sl c d sz l = .slice none 0 0) ∨ ((c && l.isEmpty) = false ∧ sl c d sz l = vs d sz l) := by
 unfold sl
 cases c <;> cases l <;> simp
theorem zani (c : Bool) (k : Tok) (sz : Nat) (l : List Value) : (l = [] ∧ c = true ∧ ol c k sz l = .slice none 0 0) ∨ ((c && l.isEmpty) = false ∧ ol c k sz l = vo k sz 0 l) := by
 unfold ol
 cases c <;> cases l <;> simp
theorem zakb (c : Bool) (d sz : Nat) (l : List Value) : toks (sl c d sz l) = [] := by rcases zaer c d sz l with ⟨_, _, h⟩ | ⟨_, h⟩ <;> rw [h] <;> rfl
theorem zahd (f : Tok → Fate) (c : Bool) (d sz : Nat) (l : List Value) : mapOwn (fate f) (sl c d sz l) = sl c d sz l := zaau (zabk f) _ (zakb c d sz l)
theorem zaxr (ks : List Tok) (c : Bool) (d sz : Nat) (l : List Value) : mapOwn (thaw ks) (sl c d sz l) = sl c d sz l := zahd _ c d sz l
theorem zatd (k : Tok) (c : Bool) (d sz : Nat) (l : List Value) : mapOwn (scrub k) (sl c d sz l) = sl c d sz l := zahd _ c d sz l
theorem zamm (c : Bool) (d sz : Nat) (l : List Value) : mapOwn thawAll (sl c d sz l) = sl c d sz l := zahd _ c d sz l
theorem zaoe (b : Bool) (c : Bool) (d sz : Nat) (l : List Value) : mapOwn (lend b) (sl c d sz l) = sl c d sz l := zahd _ c d sz l
theorem zaw2 (is : List Nat) (c : Bool) (d sz : Nat) (l : List Value) : mapOwn (dropBoxes is) (sl c d sz l) = sl c d sz l := zahd _ c d sz l
theorem okv_sl (n : Nat) (c : Bool) (d sz : Nat) (l : List Value) : okv n false (sl c d sz l) = true := by rcases zaer c d sz l with ⟨_, _, h⟩ | ⟨_, h⟩ <;> rw [h] <;> rfl
theorem zaow (n : Nat) (st : Bool) (c : Bool) (sz : Nat) (l : List Value) : okv n st (sl c 0 sz l) = true := by rcases zaer c 0 sz l with ⟨_, _, h⟩ | ⟨_, h⟩ <;> rw [h] <;> cases st <;> rfl
theorem tup_sl (c : Bool) (d sz : Nat) (l : List Value) : isTup (sl c d sz l) = false := by rcases zaer c d sz l with ⟨_, _, h⟩ | ⟨_, h⟩ <;> rw [h] <;> rfl
theorem cel_sl (c : Bool) (d sz : Nat) (l : List Value) : (sl c d sz l).cells = ⟨[sl c d sz l]⟩ := by rcases zaer c d sz l with ⟨_, _, h⟩ | ⟨_, h⟩ <;> rw [h] <;> rfl
theorem zart (c : Bool) (d sz : Nat) (l : List Value) : cellV (sl c d sz l) = some (sl c d sz l) := by rcases zaer c d sz l with ⟨_, _, h⟩ | ⟨_, h⟩ <;> rw [h] <;> rfl
theorem zaoc (c : Bool) (d sz : Nat) (l : List Value) : isAggV (sl c d sz l) = false := by rcases zaer c d sz l with ⟨_, _, h⟩ | ⟨_, h⟩ <;> rw [h] <;> rfl
theorem zape (c : Bool) (d sz : Nat) (l : List Value) : velems sz (sl c d sz l) = some l := by
 rcases zaer c d sz l with ⟨h1, _, h⟩ | ⟨_, h⟩
 ·rw [h, h1]; rfl
 ·rw [h]; exact zapd d sz l
theorem zaxs (c : Bool) (k : Tok) (sz : Nat) (l : List Value) : toks (ol c k sz l) = if c && l.isEmpty then [] else [k] := by unfold ol; split <;> rfl
theorem zamk (c : Bool) (k : Tok) (sz : Nat) (l : List Value) : mapOwn thawAll (ol c k sz l) = sl c 0 sz l := by unfold ol sl; split <;> rfl
theorem zaw6 (c : Bool) (k : Tok) (sz : Nat) (l : List Value) : mapOwn (lend true) (ol c k sz l) = sl c 1 sz l := by unfold ol sl; split <;> rfl
theorem zaxp (ks : List Tok) (c : Bool) (k : Tok) (sz : Nat) (l : List Value) : mapOwn (thaw ks) (ol c k sz l) = if k ∈ ks then sl c 0 sz l else ol c k sz l := by
 unfold ol sl
 split
 ·simp [zagz]
 ·rw [zaib, zak3]
theorem tup_ol (c : Bool) (k : Tok) (sz : Nat) (l : List Value) : isTup (ol c k sz l) = false := by unfold ol; split <;> rfl
theorem cel_ol (c : Bool) (k : Tok) (sz : Nat) (l : List Value) : (ol c k sz l).cells = ⟨[ol c k sz l]⟩ := by unfold ol; split <;> rfl
theorem zapc (c : Bool) (k : Tok) (sz : Nat) (l : List Value) : velems sz (ol c k sz l) = some l := by
 rcases zani c k sz l with ⟨h1, _, h⟩ | ⟨_, h⟩
 ·rw [h, h1]; rfl
 ·rw [h]; exact zamt k sz 0 l
theorem zao6 (S : VH) (c : Bool) (d sz : Nat) (l : List Value) : S.thaw (if c && l.isEmpty then [] else [(d, none)]) = S := by split <;> rfl
theorem zao7 (S : VH) (b : Bool) (d : Nat) : S.thaw (if b then [] else [(d, none)]) = S := by split <;> rfl
def growT (nil : Bool) (k : Tok) : Turn := if nil then thaw [k] else scrub k
theorem zal1 (b : Bool) (k : Tok) : Nice (growT b k) := by unfold growT; split <;> exact zabk _
theorem zasc (b : Bool) (k : Tok) (c : Bool) (d sz : Nat) (l : List Value) : mapOwn (growT b k) (sl c d sz l) = sl c d sz l := zaau (zal1 b k) _ (zakb c d sz l)
theorem zasb (b : Bool) (k : Tok) (d sz : Nat) (l : List Value) (v : Value) : growT b k (.ro d sz l) v = v := by unfold growT; split <;> rfl
theorem zasa (b : Bool) (k : Tok) (x v : Value) : growT b k (.at x) v = v := by unfold growT; split <;> rfl
theorem zat4 (d sz bytes : Nat) (a : Value) (m l : List Value) (S : VH) : vgrow d sz bytes (ol true (d, none) sz l) (a :: m) S =
    if (l.length + (m.length + 1)) * bytes ≤ 140737488355328 ∧ l.length + (m.length + 1) ≤ 9223372036854775807 then some ⟨ol true (d, none) sz (l ++ a :: m), [growT l.isEmpty (d, none)], S, [], !l.isEmpty⟩ else none := by
 cases l with
 | nil =>
  show vgrow d sz bytes (.slice none 0 0) (a :: m) S = _
  rw [zapi]
  simp [ol, growT]
 | cons x l =>
  have h1 : ol true (d, none) sz (x :: l) = vo (d, none) sz 0 (x :: l) := by simp [ol]
  have h2 : ol true (d, none) sz (x :: l ++ a :: m) = vo (d, none) sz 0 (x :: l ++ a :: m) := by simp [ol]
  rw [h1, h2, zapj]
  rfl
section
variable {P : Program} {S : VH} {t el : TypeId} {sz : Nat}
theorem vix_sl (h : elemT P t = some el) (hs : szT P el = some sz) (c : Bool) (d : Nat) (l : List Value) (k : IntKind) (j : Int) : vindexAddr P t (sl c d sz l) (.int k j) = if 0 ≤ j then (l[j.toNat]?).map vp else none := by
 rcases zaer c d sz l with ⟨h1, _, h2⟩ | ⟨_, h2⟩
 ·rw [h2, h1]
  show none = _
  simp
 ·rw [h2]; exact vix_ro h hs d l k j
theorem vix_ol (h : elemT P t = some el) (hs : szT P el = some sz) (c : Bool) (q : Tok) (l : List Value) (k : IntKind) (j : Int) : vindexAddr P t (ol c q sz l) (.int k j) = if 0 ≤ j then (l[j.toNat]?).map (vq q j.toNat) else none := by
 rcases zani c q sz l with ⟨h1, _, h2⟩ | ⟨_, h2⟩
 ·rw [h2, h1]
  show none = _
  simp
 ·rw [h2, zakc h hs q 0 l k j]; simp
theorem zapl (h : elemT P t = some el) (c : Bool) (d sz : Nat) (l : List Value) : vlen P t (sl c d sz l) = some (.int .i64 l.length) := by
 rcases zaer c d sz l with ⟨h1, _, h2⟩ | ⟨_, h2⟩
 ·rw [h2, h1]; exact zahy h
 ·rw [h2]; exact zamv h d sz l
theorem zapk (h : elemT P t = some el) (c : Bool) (q : Tok) (sz : Nat) (l : List Value) : vlen P t (ol c q sz l) = some (.int .i64 l.length) := by
 rcases zani c q sz l with ⟨h1, _, h2⟩ | ⟨_, h2⟩
 ·rw [h2, h1]; exact zahy h
 ·rw [h2]; exact zaji h q sz 0 l
end
end Go.Proofs.YtliemjbafgnnbaaDoor.Abs
/- Steps of regions that draw their order. -/
namespace Go.Proofs.YtliemjbafgnnbaaDoor.Abs
open Go
section
variable {P : Program} {X : VOuter} {ops : Array Oper} {S0 S : VH} {e es : Env} {rest : List Oper} {T : List (List Nat)} {Hs : List (List Nat × Bool)} {ob : List VObl} {Q : Env → VH → Prop} {op : Op} {ty : TypeId} {pos : String} {af : Array Edge} {g : Option (Nat × Bool)} {d : Tmp} {sd : Bool} {k : Nat} {ks : List Nat}
def shadeS (sd : Bool) (P : Program) (o : Oper) (es : Env) (S0 : VH) (Hs : List (List Nat × Bool)) : Env := if sd then eput es o.dst (vshade P o es S0 Hs) else es
theorem VE_nil : VE P X ops sd S0 T [] es e S Hs ob Q = (ob.all (vspan Hs.reverse) = true ∧ Q e S) := by cases T <;> rfl
theorem zapp {o : Oper} {K : VCont} : (With (awanted ops o e) fun _ => VStp P X ops o e S K) = VStp P X ops o e S K := by
 cases h : awanted ops o e with
 | none => simp only [VStp, h, With]
 | some w => unfold With; rfl
theorem za1j : VE P X ops sd S0 ([] :: T) (⟨some d, op, ty, pos, af, g⟩ :: rest) es e S Hs ob Q = VStp P X ops ⟨some d, op, ty, pos, af, g⟩ e S fun v gg S' ws kf => VE P X ops sd S0 T rest (shadeS sd P ⟨some d, op, ty, pos, af, g⟩ es S0 Hs) (eset (emap gg e) d v) S' (if light P op then Hs else (ws, kf) :: Hs) ob Q := by
 simp only [VE, if_true]
 refine Eq.trans ?_ zapp
 rfl
theorem za1i : VE P X ops sd S0 ([] :: T) (⟨none, op, ty, pos, af, g⟩ :: rest) es e S Hs ob Q = VStp P X ops ⟨none, op, ty, pos, af, g⟩ e S fun v gg S' ws kf => VE P X ops sd S0 T rest (shadeS sd P ⟨none, op, ty, pos, af, g⟩ es S0 Hs) (emap gg e) S' (if light P op then Hs else (ws, kf) :: Hs) ob Q := by
 simp only [VE, if_true]
 refine Eq.trans ?_ zapp
 rfl
theorem za1k : VE P X ops sd S0 ((k :: ks) :: T) (⟨some d, op, ty, pos, af, none⟩ :: rest) es e S Hs ob Q = With (vobl ⟨some d, op, ty, pos, af, none⟩ (k :: ks) Hs.length (sd && !isGone (vshade P ⟨some d, op, ty, pos, af, none⟩ es S0 Hs)) e) (Hold fun nb => VStp P X ops ⟨some d, op, ty, pos, af, none⟩ e S fun v gg S' ws kf => VE P X ops sd S0 T rest (shadeS sd P ⟨some d, op, ty, pos, af, none⟩ es S0 Hs) (eset (emap gg e) d v) S' (if light P op then Hs else (ws, kf) :: Hs) (nb ++ ob) Q) := by
 simp only [VE, awanted, reduceCtorEq, if_false]
 rfl
theorem zayk (j : Nat) (want : Bool) : VE P X ops sd S0 ((k :: ks) :: T) (⟨some d, op, ty, pos, af, some (j, want)⟩ :: rest) es e S Hs ob Q = With (ayielded ops e j want) (Hold fun w => With (if w = false then some [⟨k :: ks, Hs.length, .ro⟩] else vobl ⟨some d, op, ty, pos, af, some (j, want)⟩ (k :: ks) Hs.length (sd && !isGone (vshade P ⟨some d, op, ty, pos, af, none⟩ es S0 Hs)) e) (Hold fun nb => VStp P X ops ⟨some d, op, ty, pos, af, some (j, want)⟩ e S fun v gg S' ws kf => VE P X ops sd S0 T rest (shadeS sd P ⟨some d, op, ty, pos, af, some (j, want)⟩ es S0 Hs) (eset (emap gg e) d v) S' (if light P op then Hs else (ws, kf) :: Hs) (nb ++ ob) Q)) := by
 simp only [VE, awanted, reduceCtorEq, if_false]
 rfl
theorem zav5 {o : Oper} : shadeS false P o es S0 Hs = es := _root_.id rfl
theorem zav6 : shadeS true P ⟨some d, op, ty, pos, af, g⟩ es S0 Hs = eset es d (vshade P ⟨some d, op, ty, pos, af, g⟩ es S0 Hs) := _root_.id rfl
theorem zav4 : shadeS true P ⟨none, op, ty, pos, af, g⟩ es S0 Hs = es := _root_.id rfl
theorem zae7 (dd : Option Tmp) (h : light P op = false) : vshade P ⟨dd, op, ty, pos, af, g⟩ es S0 Hs = gone := by
 unfold vshade
 rw [if_neg]
 rintro ⟨h1, _⟩
 rw [h] at h1; cases h1
theorem zaqr (dd : Option Tmp) (q : Nat × Bool) : vshade P ⟨dd, op, ty, pos, af, some q⟩ es S0 Hs = gone := by
 unfold vshade
 rw [if_neg]
 rintro ⟨_, h1⟩
 cases h1
theorem zath (dd : Option Tmp) (t : TypeId) (a : Operand) : vshade P ⟨dd, .load t a, ty, pos, af, none⟩ es S0 Hs = match vload P t (aeval es a) S0 with | some v => (match depOf (aeval es a) with | some d => if Hs.all (depStep d) then v else gone | none => gone) | none => gone := by
 unfold vshade
 rw [if_pos ⟨rfl, rfl⟩]
 rfl
theorem zael (dd : Option Tmp) (h : light P op = true) (h2 : ∀ t a, op ≠ .load t a) (h3 : ∀ t u a, op ≠ .convert t u a) (h4 : ∀ t x i k, op ≠ .lookup t x i k := by simp) : vshade P ⟨dd, op, ty, pos, af, none⟩ es S0 Hs = (vlop P (aeval es) S0 op).getD gone := by
 unfold vshade
 rw [if_pos ⟨h, rfl⟩]
 cases hv : vlop P (aeval es) S0 op with
 | none => rfl
 | some v =>
  cases op
  case load t a => exact absurd rfl (h2 _ _)
  case convert t u a => exact absurd rfl (h3 _ _ _)
  case lookup t x i k => exact absurd rfl (h4 _ _ _ _)
  all_goals rfl
theorem zati (dd : Option Tmp) (x : Operand) : vshade P ⟨dd, .move x, ty, pos, af, none⟩ es S0 Hs = aeval es x := zael dd rfl (by simp) (by simp)
theorem zann (dd : Option Tmp) (x : Operand) : vshade P ⟨dd, .assign x, ty, pos, af, none⟩ es S0 Hs = aeval es x := zael dd rfl (by simp) (by simp)
theorem zajm (dd : Option Tmp) (t : TypeId) (x : Operand) (i : Nat) : vshade P ⟨dd, .fieldAddr t x i, ty, pos, af, none⟩ es S0 Hs = (vfield P t (aeval es x) i).getD gone := zael dd rfl (by simp) (by simp)
theorem zajn (dd : Option Tmp) (t : TypeId) (x i : Operand) : vshade P ⟨dd, .indexAddr t x i, ty, pos, af, none⟩ es S0 Hs = (vindexAddr P t (aeval es x) (aeval es i)).getD gone := zael dd rfl (by simp) (by simp)
theorem zaqo (dd : Option Tmp) (o : BinOp) (t u : TypeId) (x y : Operand) : vshade P ⟨dd, .binOp o t x y u, ty, pos, af, none⟩ es S0 Hs = (vbin P o t x y (aeval es x) (aeval es y)).getD gone := zael dd rfl (by simp) (by simp)
theorem zatk (dd : Option Tmp) (o : UnOp) (t : TypeId) (x : Operand) : vshade P ⟨dd, .unOp o t x, ty, pos, af, none⟩ es S0 Hs = (lop P (aeval es) ⟨0, .tip⟩ (.unOp o t x)).getD gone := zael dd rfl (by simp) (by simp)
theorem zatj (dd : Option Tmp) (a b c : Operand) : vshade P ⟨dd, .pick a b c, ty, pos, af, none⟩ es S0 Hs = (lop P (aeval es) ⟨0, .tip⟩ (.pick a b c)).getD gone := zael dd rfl (by simp) (by simp)
theorem zamj (dd : Option Tmp) (x : Operand) (i : Nat) : vshade P ⟨dd, .extract x i, ty, pos, af, none⟩ es S0 Hs = (lop P (aeval es) ⟨0, .tip⟩ (.extract x i)).getD gone := zael dd rfl (by simp) (by simp)
theorem zaqq (dd : Option Tmp) (t : TypeId) (x : Operand) (i : Nat) : vshade P ⟨dd, .field t x i, ty, pos, af, none⟩ es S0 Hs = (lop P (aeval es) ⟨0, .tip⟩ (.field t x i)).getD gone := zael dd rfl (by simp) (by simp)
theorem zaqp (dd : Option Tmp) (t : TypeId) (ps : Array (Nat × Operand)) : vshade P ⟨dd, .build t ps, ty, pos, af, none⟩ es S0 Hs = (lop P (aeval es) ⟨0, .tip⟩ (.build t ps)).getD gone := zael dd rfl (by simp) (by simp)
theorem zav3 (dd : Option Tmp) (x : Operand) (t : TypeId) : vshade P ⟨dd, .call ⟨.builtin .len, #[x], #[t]⟩, ty, pos, af, none⟩ es S0 Hs = (vlen P t (aeval es x)).getD gone := zael dd rfl (by simp) (by simp)
theorem zami (dd : Option Tmp) (t u : TypeId) (x : Operand) : vshade P ⟨dd, .convert t u x, ty, pos, af, g⟩ es S0 Hs = gone := by
 unfold vshade
 split
 ·cases vlop P (aeval es) S0 (.convert t u x) <;> rfl
 ·rfl
theorem zano (dd : Option Tmp) (t : TypeId) (x i : Operand) (k : Bool) : vshade P ⟨dd, .lookup t x i k, ty, pos, af, g⟩ es S0 Hs = gone := by
 unfold vshade
 split
 ·cases vlop P (aeval es) S0 (.lookup t x i k) <;> rfl
 ·rfl
theorem zatg (dd : Option Tmp) (f : Operand) (a : Array Operand) (ts : Array TypeId) : vshade P ⟨dd, .call ⟨.value f, a, ts⟩, ty, pos, af, g⟩ es S0 Hs = gone := zae7 dd rfl
theorem zanm (dd : Option Tmp) (a : Array Operand) (ts : Array TypeId) : vshade P ⟨dd, .call ⟨.builtin .append, a, ts⟩, ty, pos, af, g⟩ es S0 Hs = gone := zae7 dd rfl
theorem zai8 (dd : Option Tmp) (t : TypeId) (n : Nat) (ps : Array (Nat × Operand)) : vshade P ⟨dd, .buildSlice t n ps, ty, pos, af, g⟩ es S0 Hs = gone := zae7 dd rfl
theorem zaqn (dd : Option Tmp) (t : TypeId) : vshade P ⟨dd, .alloc t, ty, pos, af, g⟩ es S0 Hs = gone := zae7 dd rfl
theorem zav2 (dd : Option Tmp) (t : TypeId) (x : Operand) : vshade P ⟨dd, .box t x, ty, pos, af, g⟩ es S0 Hs = gone := zae7 dd rfl
theorem zawh (dd : Option Tmp) (t : TypeId) (a : Operand) (sh : Bool) (at' : Nat) : vobl ⟨dd, .load t a, ty, pos, af, g⟩ ks at' sh e = (depOf (aeval e a)).bind fun d => if sh || ks.all (fun k => decide (at' ≤ k)) then some [⟨ks, at', d⟩] else none := _root_.id rfl
theorem za13 (a : Addr) : depOf (.pointer (some a)) = some (.box a.block) := _root_.id rfl
theorem dep_at (x : Value) : depOf (vp x) = some .ro := _root_.id rfl
theorem zaqb : isGone gone = true := _root_.id rfl
theorem zasg (k : IntKind) (n : Int) : isGone (.int k n) = false := _root_.id rfl
theorem zasf (a : Array Value) : isGone (.agg a) = false := _root_.id rfl
theorem zaqa (b : Bool) : isGone (.bool b) = false := _root_.id rfl
theorem zalt (b : ByteArray) : isGone (.string b) = false := _root_.id rfl
theorem zap4 (n : Nat) (ws : List Nat) (kf : Bool) : depStep (.box n) (ws, kf) = (ws.all fun i => !(i == n)) := by
 unfold depStep
 show (!ws.contains n) = _
 rw [Bool.eq_iff_iff]
 simp only [Bool.not_eq_true', List.contains_eq_mem, decide_eq_false_iff_not, List.all_eq_true, beq_eq_false_iff_ne]
 exact ⟨fun h x hx e => h (e ▸ hx), fun h hn => h n hn rfl⟩
end
theorem zax3 {α : Type} (es : List (Value × Value)) (f : List (Value × Value) → Option α) : (ventries (vm es)).bind f = f es := by
 have : ventries (vm es) = some es := by
  show some ((es.map encE).map decE) = some es
  simp [List.map_map, Function.comp_def, zar1]
 rw [this]; rfl
theorem vm_nil {α : Type} (f : List (Value × Value) → Option α) : (ventries (.map none)).bind f = f [] := _root_.id rfl
theorem zax7 (ks : List Tok) (es : List (Value × Value)) : mapOwn (thaw ks) (vm es) = vm es := _root_.id rfl
theorem zamw (es : List (Value × Value)) : mapOwn thawAll (vm es) = vm es := _root_.id rfl
theorem zat6 (k : Tok) (es : List (Value × Value)) : mapOwn (scrub k) (vm es) = vm es := _root_.id rfl
theorem zax6 (b : Bool) (es : List (Value × Value)) : mapOwn (lend b) (vm es) = vm es := _root_.id rfl
theorem zax4 (is : List Nat) (es : List (Value × Value)) : mapOwn (dropBoxes is) (vm es) = vm es := _root_.id rfl
theorem zax5 (f : Tok → Fate) (es : List (Value × Value)) : mapOwn (fate f) (vm es) = vm es := _root_.id rfl
theorem zat5 (b : Bool) (k : Tok) (es : List (Value × Value)) : mapOwn (growT b k) (vm es) = vm es := by cases b <;> rfl
theorem tup_vm (es : List (Value × Value)) : isTup (vm es) = false := _root_.id rfl
end Go.Proofs.YtliemjbafgnnbaaDoor.Abs
/- What comes behind a text, named once. -/
namespace Go.Proofs.YtliemjbafgnnbaaDoor.Abs
open Go
section
variable {P : Program} {X : VOuter} {e : Env} {S : VH} {Q : Ex → Env → VH → Prop}
def SeqK (P : Program) (X : VOuter) (b : Code) (Q : Ex → Env → VH → Prop) : Ex → Env → VH → Prop := fun x e' S' => match x with
 | .normal => VWP P X b e' S' Q
 | x => Q x e' S'
def BlkK (id : Nat) (Q : Ex → Env → VH → Prop) : Ex → Env → VH → Prop := fun x e' S' => match x with
 | .exit j => if j = id then Q .normal e' S' else Q (.exit j) e' S'
 | x => Q x e' S'
theorem zay0 (a b : Code) : VWP P X (.seq a b) e S Q = VWP P X a e S (SeqK P X b Q) := _root_.id rfl
theorem zaq9 (id : Nat) (c : Code) : VWP P X (.block id c) e S Q = VWP P X c e S (BlkK id Q) := _root_.id rfl
theorem zapt (b : Code) : SeqK P X b Q .normal e S = VWP P X b e S Q := _root_.id rfl
theorem zayj (b : Code) : SeqK P X b Q .ret e S = Q .ret e S := _root_.id rfl
theorem zauh (b : Code) (j : Nat) : SeqK P X b Q (.exit j) e S = Q (.exit j) e S := _root_.id rfl
theorem zapr (id : Nat) : BlkK id Q .normal e S = Q .normal e S := _root_.id rfl
theorem zaye (id : Nat) : BlkK id Q .ret e S = Q .ret e S := _root_.id rfl
theorem zaug (id j : Nat) : BlkK id Q (.exit j) e S = if j = id then Q .normal e S else Q (.exit j) e S := _root_.id rfl
def FinK (P : Program) (fn : Func) (Q : Value → List (Nat × Blk) → Prop) : Ex → Env → VH → Prop := fun x e S => With (vfinish P fn (x, e, S)) fun r => Q r.1 r.2
theorem zaao {f : FuncId} {fn : Func} {c : Code} {args : List Value} {B : List Blk} {Q : Value → List (Nat × Blk) → Prop} (hX : X f = none) (hf : P.funcs[f]? = some fn) (hc : fn.body = some c) (hok : dstOk fn.ntmps c = true) (hl : args.length ≤ fn.ntmps)
    (h : VWP P X c args ⟨B, [], []⟩ (FinK P fn Q)) : Vf P X f args B Q := zaaw hX hf hc hok hl h
theorem zayh (fn : Func) (Q : Value → List (Nat × Blk) → Prop) : FinK P fn Q .ret e S = With ((vresults P e S fn.results.toList).bind fun vs => vtell (ret1 vs) S) fun r => Q r.1 r.2 := _root_.id rfl
theorem zaps (fn : Func) (Q : Value → List (Nat × Blk) → Prop) : FinK P fn Q .normal e S = With ((vresults P e S fn.results.toList).bind fun vs => vtell (ret1 vs) S) fun r => Q r.1 r.2 := _root_.id rfl
def NormK (Q : Ex → Env → VH → Prop) : Env → VH → Prop := fun e S => Q .normal e S
theorem zayi : NormK Q e S = Q .normal e S := _root_.id rfl
theorem zapw (id : Nat) (l : List Oper) : VWP P X (.region id l.toArray false) e S Q = VReg P X l.toArray l e S (NormK Q) := _root_.id rfl
theorem zaaj {id : Nat} {l : List Oper} (T : List (List Nat)) (sd : Bool) (hok : drawOk P l.toArray = true) (hT : othersAll P l.toArray = T) (hsd : early P l.toArray T = sd) (h : VE P X l.toArray sd S T l e e S [] [] (NormK Q)) : Vc P X (.region id l.toArray true) e S Q := zaei T sd hok hT hsd h
theorem zakf {id : Nat} {l : List Oper} (T : List (List Nat)) (sd : Bool) (hno : drawOk P l.toArray = false) (hok : drawOk2 P l.toArray = true) (hT : othersAll2 P l.toArray = T) (hsd : early P l.toArray T = sd) (h : VE P X l.toArray sd S T l e e S [] [] (NormK Q)) : Vc P X (.region id l.toArray true) e S Q := zags T sd hno hok hT hsd h
end
end Go.Proofs.YtliemjbafgnnbaaDoor.Abs
/- Calls that are handed a pointer at the second of the callers' boxes. -/
namespace Go.Proofs.YtliemjbafgnnbaaDoor.Abs
open Go
def cx (b : Blk) (R : List Blk) : List Blk := R.headD .dead :: b :: R.tail
def cl (R : List Blk) : Nat := R.tail.length + 2
def cat (R l : List Blk) : List Blk := R.headD .dead :: (R.tail ++ l)
abbrev p0 : Value := .pointer (some ⟨1, 0, none⟩)
section
variable (b b' : Blk) (R l : List Blk) (w : List Nat) (k : Nat)
theorem cx_len : (cx b R).length = cl R := _root_.id rfl
theorem za06 : VH.next ⟨cx b R, l, w⟩ = cl R + l.length := _root_.id rfl
theorem za0z : VH.get ⟨cx b R, l, w⟩ 1 = b := by simp [VH.get, cx]
theorem zat8 : VH.put ⟨cx b R, l, w⟩ 1 b' = ⟨cx b' R, l, addW 1 w⟩ := by simp [VH.put, cx]
theorem zat3 : VH.get ⟨cx b R, l, w⟩ (cl R + k) = l.getD k .dead := by
 have : ¬ (cl R + k < (cx b R).length) := by rw [cx_len]; omega
 unfold VH.get
 rw [if_neg this]
 simp [cx_len]
theorem zat9 : VH.put ⟨cx b R, l, w⟩ (cl R + k) b' = ⟨cx b R, l.set k b', w⟩ := by
 have : ¬ (cl R + k < (cx b R).length) := by rw [cx_len]; omega
 unfold VH.put
 rw [if_neg this]
 simp [cx_len]
theorem zawf : VH.get ⟨cx b R, l, w⟩ (cl R) = l.getD 0 .dead := zat3 b R l w 0
theorem zawi : VH.put ⟨cx b R, l, w⟩ (cl R) b' = ⟨cx b R, l.set 0 b', w⟩ := zat9 b b' R l w 0
theorem zatw : VH.all ⟨cx b R, l, w⟩ = cx b (cat R l) := _root_.id rfl
theorem cl_pos : (1 < cl R) = True := by simp [cl]
theorem cl_add : (cl R + k < cl R) = False := by simp
theorem za1y : (cl R < cl R) = False := by simp
theorem zay5 : addW 1 [] = [1] := _root_.id rfl
theorem zay6 : addW 1 [1] = [1] := _root_.id rfl
theorem zaq1 : VH.writes ⟨cx b R, l, []⟩ = [] := _root_.id rfl
theorem zaq2 : VH.writes ⟨cx b R, l, [1]⟩ = [(1, b)] := _root_.id rfl
theorem za1d : VH.puts ⟨cx b R, l, w⟩ [(1, b')] = ⟨cx b' R, l, addW 1 w⟩ := by rw [zaua, zat8, zak7]
end
section
variable {P : Program} {X : VOuter}
theorem ptr_no (n : Nat) (args : List Value) (g : Turn) : okvL 0 false (mapOwnL g (p0 :: args)) = false := by
 simp [zaal, zacp, zaee, zaov]
theorem zaef {f : FuncId} {args : List Value} {b : Blk} {R l : List Blk} {w : List Nat} {K : VCont} {r : Value} (h : Vf P X f (p0 :: args) (cx b (cat R l)) fun v ws => ws = [] ∧ v = r) (ha : mapOwnL (lend false) args = args) (ht : toksL args = []) : Vcallee P X f (p0 :: args) ⟨cx b R, l, w⟩ K = K r [] ⟨cx b R, l, w⟩ [] false := by
 have e : mapOwnL (lend false) (p0 :: args) = p0 :: args := by rw [zaal, zacp, ha]
 have t : toksL (p0 :: args) = [] := by rw [zabr, zaem, ht]; rfl
 rw [zag3, if_neg (by rw [ptr_no 0]; simp), e, zatw, Vf_det h, t]
 simp [zak7]
theorem zaf9 {f : FuncId} {args : List Value} {b b' : Blk} {R l : List Blk} {w : List Nat} {K : VCont} {r : Value} (h : Vf P X f (p0 :: args) (cx b (cat R l)) fun v ws => ws = [(1, b')] ∧ v = r) (ha : mapOwnL (lend false) args = args) (ht : toksL args = []) (hb : lowW (cl R) (1, b') = true) : Vcallee P X f (p0 :: args) ⟨cx b R, l, w⟩ K = K r [dropBoxes [1]] ⟨cx b' R, l, addW 1 w⟩ [1] false := by
 have e : mapOwnL (lend false) (p0 :: args) = p0 :: args := by rw [zaal, zacp, ha]
 have t : toksL (p0 :: args) = [] := by rw [zabr, zaem, ht]; rfl
 rw [zag3, if_neg (by rw [ptr_no 0]; simp), e, zatw, Vf_det h, t]
 simp [za1d, cx_len, hb]
end
def cxpre := And.intro (@zat8) (And.intro (@zat9) (@zawi))
def cxpost := And.intro (And.intro (And.intro (@za06) (And.intro (@za0z) (@zat3))) (And.intro (@zawf) (And.intro (@zatw) (@cl_pos)))) (And.intro (And.intro (@cl_add) (And.intro (@za1y) (@zay5))) (And.intro (And.intro (@zay6) (@zaq1)) (And.intro (@zaq2) (@cx_len))))
end Go.Proofs.YtliemjbafgnnbaaDoor.Abs
/- A call from outside that makes blocks of its own, and nothing else. -/
namespace Go.Proofs.YtliemjbafgnnbaaDoor.Abs
open Go
theorem zatn {R : Rl} {H' : Hp} (hn : R.H.next ≤ H'.next) (hg : ∀ b, b < R.H.next → H'.get b = R.H.get b) : Stays R { R with H := H' } :=
 ⟨fun i b h => h, fun b hb => ⟨⟨Nat.lt_of_lt_of_le hb.1 hn, hb.2.1, hb.2.2⟩, hg b hb.1⟩, fun d b _ h => h⟩
theorem zau5 {R : Rl} {B : List Blk} {H' : Hp} (hR : HRel R B) (hf : ∀ d, R.ρ (d, none) = none) (hn : R.H.next ≤ H'.next) (hg : ∀ b, b < R.H.next → H'.get b = R.H.get b) : Done R { R with H := H' } B [] where
 hr :=
  { len := hR.len, nodup := hR.nodup, lt := fun b hb => Nat.lt_of_lt_of_le (hR.lt b hb) hn, inj := hR.inj, sep := fun k b h => ⟨(hR.sep k b h).1, Nat.lt_of_lt_of_le (hR.sep k b h).2 hn⟩,
    fr := fun b hb => hR.fr b (Nat.le_trans hn hb), dom := hR.dom, own := hR.own,
    blk := fun i b hb => by
     have hlt : b < R.H.next := hR.lt b (List.mem_of_getElem? hb)
     have := (hR.blk i b hb).same (zatn hn hg) (zag9 hR fun k b h => ⟨h, hg b (hR.sep k b h).2⟩)
     show BR _ i _ (H'.get b)
     rw [hg b hlt]
     exact this }
 φ := rfl
 M := rfl
 nx := hn
 fr := fun b hb _ => hg b hb
 keep := fun _ _ _ => rfl
 frame := hf
 tok := fun k b h => .inl h
 w := fun p h => by cases h
theorem zaky {R : Rl} : ∀ (args cargs : List Value), RdL R args cargs → args.all isScal = true → cargs = args
 | [], cargs, h, _ => List.length_eq_zero_iff.1 h.1.symm
 | a :: args, [], h, _ => by have := h.1; simp at this
 | a :: args, c :: cargs, h, hs => by
  simp only [List.all_cons, Bool.and_eq_true] at hs
  rw [h.head.inv_scal hs.1, zaky args cargs h.tail hs.2]
end Go.Proofs.YtliemjbafgnnbaaDoor.Abs
