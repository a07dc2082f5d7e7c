/- Equations by which values with their slices are run with names in the place of numbers. -/
import Derived.Test.YtliemjbafgnnbaaDoorMW6
set_option maxHeartbeats 0
set_option linter.unusedSimpArgs false
set_option linter.unusedVariables false
namespace Go.Proofs.YtliemjbafgnnbaaDoor.Abs
open Go
def VWP (P : Program) (X : VOuter) : Code → Env → VH → (Ex → Env → VH → Prop) → Prop
 | .skip, e, S, Q => Q .normal e S
 | .region id ops draw, e, S, Q => match draw with
  | false => VReg P X ops ops.toList e S fun e' S' => Q .normal e' S'
  | true => Vc P X (.region id ops true) e S Q
 | .seq a b, e, S, Q => VWP P X a e S fun x e' S' => match x with
  | .normal => VWP P X b e' S' Q
  | x => Q x e' S'
 | .cond c a b, e, S, Q => match aeval e c with
  | .bool t => if t = true then VWP P X a e S Q else VWP P X b e S Q
  | _ => False
 | .block id c, e, S, Q => VWP P X c e S fun x e' S' => match x with
  | .exit j => if j = id then Q .normal e' S' else Q (.exit j) e' S'
  | x => Q x e' S'
 | .loop c, e, S, Q => Vc P X (.loop c) e S Q
 | .exit id, e, S, Q => Q (.exit id) e S
 | .ret, e, S, Q => Q .ret e S
 | _, _, _, _ => False
section
variable {P : Program} {X : VOuter} {e : Env} {S : VH} {Q : Ex → Env → VH → Prop}
theorem zaul {ops : Array Oper} {o : Oper} {K K' : VCont} (hq : ∀ v g S ws kf, K v g S ws kf → K' v g S ws kf) (h : VStp P X ops o e S K) : VStp P X ops o e S K' := by
 unfold VStp at h ⊢
 split at h
 ·exact h.elim
 ·exact hq _ _ _ _ _ h
 ·split at h
  ·rename_i hl
   rw [if_pos hl]
   cases hv : vlop P (aeval e) S o.op with
   | none => rw [hv] at h; exact h.elim
   | some v => rw [hv] at h; exact hq _ _ _ _ _ h
  ·rename_i hl
   rw [if_neg hl]
   split at h
   ·exact h.elim
   ·exact hq _ _ _ _ _ h
   ·unfold Vcallee at h ⊢
    split at h
    ·rename_i hc; rw [if_pos hc]; exact h.mono fun v w hh => ⟨hh.1, hq _ _ _ _ _ hh.2⟩
    ·rename_i hc; rw [if_neg hc]; exact h.mono fun v w hh => ⟨hh.1, hq _ _ _ _ _ hh.2⟩
theorem zany {ops : Array Oper} : ∀ (l : List Oper) (e : Env) (S : VH) (Q Q' : Env → VH → Prop), (∀ e S, Q e S → Q' e S) → VReg P X ops l e S Q → VReg P X ops l e S Q'
 | [], e, S, Q, Q', hq, h => hq _ _ h
 | o :: l, e, S, Q, Q', hq, h => zaul (fun v g S' ws kf hh => zany l _ _ Q Q' hq hh) h
theorem VWP_Vc : ∀ (c : Code) (e : Env) (S : VH) (Q : Ex → Env → VH → Prop), VWP P X c e S Q → Vc P X c e S Q := by
 intro c
 induction c with
 | skip => intro e S Q h; exact za1s h
 | region id ops draw =>
  intro e S Q h
  cases draw with
  | false => exact zaum h
  | true => exact h
 | seq a b iha ihb =>
  intro e S Q h
  refine Vc_seq ((iha _ _ _ h).mono ?_)
  intro x e' S' hx
  cases x with
  | normal => exact ihb _ _ _ hx
  | exit j => exact hx
  | ret => exact hx
 | cond c a b iha ihb =>
  intro e S Q h
  simp only [VWP] at h
  split at h
  ·rename_i t ht
   refine za1q ht (fun h1 => ?_) (fun h2 => ?_)
   ·rw [if_pos h1] at h; exact iha _ _ _ h
   ·rw [if_neg (by simp [h2])] at h; exact ihb _ _ _ h
  ·exact h.elim
 | block id c ih => intro e S Q h; exact zay2 (ih _ _ _ h)
 | loop c ih => intro e S Q h; exact h
 | exit id => intro e S Q h; exact za1r h
 | ret => intro e S Q h; exact Vc_ret h
 | _ => intro e S Q h; exact h.elim
theorem VWP.mono : ∀ (c : Code) (e : Env) (S : VH) (Q Q' : Ex → Env → VH → Prop), (∀ x e' S', Q x e' S' → Q' x e' S') → VWP P X c e S Q → VWP P X c e S Q' := by
 intro c
 induction c with
 | skip => intro e S Q Q' hq h; exact hq _ _ _ h
 | region id ops draw =>
  intro e S Q Q' hq h
  cases draw with
  | false => exact zany _ _ _ _ _ (fun e' S' h => hq _ _ _ h) h
  | true => exact Vc.mono h hq
 | seq a b iha ihb =>
  intro e S Q Q' hq h
  refine iha _ _ _ _ ?_ h
  intro x e' S' hx
  cases x with
  | normal => exact ihb _ _ _ _ hq hx
  | exit j => exact hq _ _ _ hx
  | ret => exact hq _ _ _ hx
 | cond c a b iha ihb =>
  intro e S Q Q' hq h
  simp only [VWP] at h ⊢
  split at h
  ·rename_i t ht
   by_cases ht1 : t = true
   ·rw [if_pos ht1] at h ⊢; exact iha _ _ _ _ hq h
   ·rw [if_neg ht1] at h ⊢; exact ihb _ _ _ _ hq h
  ·exact h.elim
 | block id c ih =>
  intro e S Q Q' hq h
  refine ih _ _ _ _ ?_ h
  intro x e' S' hx
  cases x with
  | exit j =>
   by_cases hj : j = id
   ·simp only [hj, if_true] at hx ⊢; exact hq _ _ _ hx
   ·simp only [hj, if_false] at hx ⊢; exact hq _ _ _ hx
  | normal => exact hq _ _ _ hx
  | ret => exact hq _ _ _ hx
 | loop c ih => intro e S Q Q' hq h; exact Vc.mono h hq
 | exit id => intro e S Q Q' hq h; exact hq _ _ _ h
 | ret => intro e S Q Q' hq h; exact hq _ _ _ h
 | _ => intro e S Q Q' hq h; exact h.elim
theorem zay1 : VWP P X .skip e S Q = Q .normal e S := _root_.id rfl
theorem zayz (id : Nat) (ops : Array Oper) : VWP P X (.region id ops true) e S Q = Vc P X (.region id ops true) e S (Hold Q) := _root_.id rfl
theorem zayw (c : Operand) (a b : Code) : VWP P X (.cond c a b) e S Q = With (asBool (aeval e c)) (Hold fun t => if t = true then VWP P X a e S Q else VWP P X b e S Q) := by
 simp only [VWP]
 generalize aeval e c = v
 cases v <;> rfl
theorem zayy (c : Code) : VWP P X (.loop c) e S Q = Vc P X (.loop c) e S (Hold Q) := _root_.id rfl
theorem zayx (id : Nat) : VWP P X (.exit id) e S Q = Q (.exit id) e S := _root_.id rfl
theorem za1p : VWP P X .ret e S Q = Q .ret e S := _root_.id rfl
theorem zaaw {f : FuncId} {fn : Func} {c : Code} {args : List Value} {B : List Blk} {Q : Value → List (Nat × Blk) → Prop} (hX : X f = none) (hf : P.funcs[f]? = some fn) (hc : fn.body = some c) (hok : dstOk fn.ntmps c = true) (hl : args.length ≤ fn.ntmps)
    (h : VWP P X c args ⟨B, [], []⟩ fun x e S => With (vfinish P fn (x, e, S)) fun r => Q r.1 r.2) : Vf P X f args B Q := za1t hX hf hc hok hl (VWP_Vc _ _ _ _ h)
theorem zaqx (fn : Func) (e : Env) (S : VH) : vfinish P fn (.ret, e, S) = (vresults P e S fn.results.toList).bind fun vs => vtell (ret1 vs) S := _root_.id rfl
theorem zak6 (fn : Func) (e : Env) (S : VH) : vfinish P fn (.normal, e, S) = (vresults P e S fn.results.toList).bind fun vs => vtell (ret1 vs) S := _root_.id rfl
theorem za1e : vresults P e S [] = some [] := _root_.id rfl
theorem za1f (t : Tmp) (rs : List ResultVar) : vresults P e S (.tmp t :: rs) = (vresults P e S rs).map fun vs => eget e t :: vs := _root_.id rfl
theorem zawj (a : Tmp) (t : TypeId) (rs : List ResultVar) : vresults P e S (.cell a t :: rs) = (vload P t (eget e a) S).bind fun v => (vresults P e S rs).map fun vs => v :: vs := _root_.id rfl
theorem za1g (v : Value) (S : VH) : vtell v S = if okv S.base.length false (mapOwn thawAll v) = true then some (mapOwn thawAll v, (S.thaw (toks v)).writes) else none := _root_.id rfl
theorem zawl (S : VH) : S.thaw [] = S := _root_.id rfl
theorem zaq3 (B l : List Blk) : VH.writes ⟨B, l, []⟩ = [] := _root_.id rfl
end
section
variable {P : Program} {X : VOuter} {ops : Array Oper} {rest : List Oper} {e : Env} {S : VH} {Q : Env → VH → Prop} {K : VCont} {d : Tmp} {dd : Option Tmp} {ty : TypeId} {pos : String} {af : Array Edge}
@[congr] theorem Vf_congr {f : FuncId} {args args' : List Value} {B B' : List Blk} {Q : Value → List (Nat × Blk) → Prop} (h : args = args') (k : B = B') : Vf P X f args B Q = Vf P X f args' B' Q := by rw [h, k]
@[congr] theorem Vc_congr {c : Code} {e : Env} {S S' : VH} {Q : Ex → Env → VH → Prop} (k : S = S') : Vc P X c e S Q = Vc P X c e S' Q := by rw [k]
theorem zayl : VReg P X ops [] e S Q = Q e S := _root_.id rfl
theorem zayn (op : Op) (g : Option (Nat × Bool)) : VReg P X ops (⟨some d, op, ty, pos, af, g⟩ :: rest) e S Q = VStp P X ops ⟨some d, op, ty, pos, af, g⟩ e S fun v g S' _ _ => VReg P X ops rest (eset (emap g e) d v) S' Q := _root_.id rfl
theorem zaym (op : Op) (g : Option (Nat × Bool)) : VReg P X ops (⟨none, op, ty, pos, af, g⟩ :: rest) e S Q = VStp P X ops ⟨none, op, ty, pos, af, g⟩ e S fun v g S' _ _ => VReg P X ops rest (emap g e) S' Q := _root_.id rfl
theorem zakr (e : Env) : emap [] e = e := _root_.id rfl
theorem zah7 (g : Turn) (r : List Turn) (e : Env) : emap (g :: r) e = emap r (e.map (mapOwn g)) := _root_.id rfl
theorem zabq (o : Op) (hl : light P o = true) : VStp P X ops ⟨dd, o, ty, pos, af, none⟩ e S K = With (vlop P (aeval e) S o) (Hold fun v => K v [] S [] false) := by
 simp only [VStp, awanted, hl, if_true]
 rfl
theorem zagr (o : Op) (hl : light P o = false) : VStp P X ops ⟨dd, o, ty, pos, af, none⟩ e S K = match vhop P (dd.getD 0) (aeval e) S o with
    | none => False
    | some (.val r) => K r.v r.g r.S r.ws r.kf
    | some (.enter f args) => Vcallee P X f args S K := by
 simp only [VStp, awanted, hl, Bool.false_eq_true, if_false]
 rfl
theorem za1m (x : Operand) : VStp P X ops ⟨dd, .move x, ty, pos, af, none⟩ e S K = With (some (aeval e x)) (Hold fun v => K v [] S [] false) := zabq _ rfl
theorem zauj (x : Operand) : VStp P X ops ⟨dd, .assign x, ty, pos, af, none⟩ e S K = With (some (aeval e x)) (Hold fun v => K v [] S [] false) := zabq _ rfl
theorem za1n (c a b : Operand) : VStp P X ops ⟨dd, .pick c a b, ty, pos, af, none⟩ e S K = With (lop P (aeval e) ⟨0, .tip⟩ (.pick c a b)) (Hold fun v => K v [] S [] false) := zabq _ rfl
theorem zayp (t : TypeId) (ps : Array (Nat × Operand)) : VStp P X ops ⟨dd, .build t ps, ty, pos, af, none⟩ e S K = With (lop P (aeval e) ⟨0, .tip⟩ (.build t ps)) (Hold fun v => K v [] S [] false) := zabq _ rfl
theorem za1l (t : TypeId) (a : Operand) : VStp P X ops ⟨dd, .load t a, ty, pos, af, none⟩ e S K = With (vload P t (aeval e a) S) (Hold fun v => K v [] S [] false) := zabq _ rfl
theorem zapv (x : Operand) : VStp P X ops ⟨dd, .nilCheck x, ty, pos, af, none⟩ e S K = With (vnil (aeval e x)) (Hold fun v => K v [] S [] false) := zabq _ rfl
theorem zayo (o : BinOp) (t u : TypeId) (x y : Operand) : VStp P X ops ⟨dd, .binOp o t x y u, ty, pos, af, none⟩ e S K = With (vbin P o t x y (aeval e x) (aeval e y)) (Hold fun v => K v [] S [] false) := zabq _ rfl
theorem za1o (o : UnOp) (t : TypeId) (x : Operand) : VStp P X ops ⟨dd, .unOp o t x, ty, pos, af, none⟩ e S K = With (lop P (aeval e) ⟨0, .tip⟩ (.unOp o t x)) (Hold fun v => K v [] S [] false) := zabq _ rfl
theorem zapu (f : Go.Fn) (a b : Array Operand) : VStp P X ops ⟨dd, .makeFunc f a b, ty, pos, af, none⟩ e S K = With (lop P (aeval e) ⟨0, .tip⟩ (.makeFunc f a b)) (Hold fun v => K v [] S [] false) := zabq _ rfl
theorem zayu (t : TypeId) (x : Operand) (a b c : Option Operand) : VStp P X ops ⟨dd, .slice t x a b c, ty, pos, af, none⟩ e S K = With (vcut P t (aeval e x) (a.map (aeval e)) (b.map (aeval e)) (c.map (aeval e))) (Hold fun v => K v [] S [] false) := zabq _ rfl
theorem zamx (t : TypeId) (x : Operand) (i : Nat) : VStp P X ops ⟨dd, .fieldAddr t x i, ty, pos, af, none⟩ e S K = With (vfield P t (aeval e x) i) (Hold fun v => K v [] S [] false) := zabq _ rfl
theorem zayr (t : TypeId) (x : Operand) (i : Nat) : VStp P X ops ⟨dd, .field t x i, ty, pos, af, none⟩ e S K = With (lop P (aeval e) ⟨0, .tip⟩ (.field t x i)) (Hold fun v => K v [] S [] false) := zabq _ rfl
theorem zamy (t : TypeId) (x i : Operand) : VStp P X ops ⟨dd, .indexAddr t x i, ty, pos, af, none⟩ e S K = With (vindexAddr P t (aeval e x) (aeval e i)) (Hold fun v => K v [] S [] false) := zabq _ rfl
theorem zauk (t : TypeId) (x i : Operand) (ok : Bool) : VStp P X ops ⟨dd, .lookup t x i ok, ty, pos, af, none⟩ e S K = With ((ventries (aeval e x)).bind fun es => mlook P t (aeval e i) ok es) (Hold fun v => K v [] S [] false) := zabq _ rfl
theorem zayt (t : TypeId) (x i : Operand) : VStp P X ops ⟨dd, .index t x i, ty, pos, af, none⟩ e S K = With (aindex P t (aeval e x) (aeval e i)) (Hold fun v => K v [] S [] false) := zabq _ rfl
theorem zaq8 (x : Operand) (i : Nat) : VStp P X ops ⟨dd, .extract x i, ty, pos, af, none⟩ e S K = With (lop P (aeval e) ⟨0, .tip⟩ (.extract x i)) (Hold fun v => K v [] S [] false) := zabq _ rfl
theorem VS_len (x : Operand) (t : TypeId) : VStp P X ops ⟨dd, .call ⟨.builtin .len, #[x], #[t]⟩, ty, pos, af, none⟩ e S K = With (vlen P t (aeval e x)) (Hold fun v => K v [] S [] false) := zabq _ rfl
theorem VS_min (x y : Operand) (ts : Array TypeId) : VStp P X ops ⟨dd, .call ⟨.builtin .min, #[x, y], ts⟩, ty, pos, af, none⟩ e S K = With (amin (aeval e x) (aeval e y)) (Hold fun v => K v [] S [] false) := by
 rw [zabq _ rfl]
 have : vlop P (aeval e) S (.call ⟨.builtin .min, #[x, y], ts⟩) = amin (aeval e x) (aeval e y) := by simp only [vlop]
 rw [this]
theorem VS_max (x y : Operand) (ts : Array TypeId) : VStp P X ops ⟨dd, .call ⟨.builtin .max, #[x, y], ts⟩, ty, pos, af, none⟩ e S K = With (amax (aeval e x) (aeval e y)) (Hold fun v => K v [] S [] false) := by
 rw [zabq _ rfl]
 have : vlop P (aeval e) S (.call ⟨.builtin .max, #[x, y], ts⟩) = amax (aeval e x) (aeval e y) := by simp only [vlop]
 rw [this]
theorem zaif (s t : TypeId) (x : Operand) (hs : elemT P t = none) : VStp P X ops ⟨dd, .convert s t x, ty, pos, af, none⟩ e S K = With (vconv P s t (aeval e x)) (Hold fun v => K v [] S [] false) := by
 refine zabq _ ?_
 simp only [light, elemT] at hs ⊢
 split at hs <;> simp_all
theorem zake {t : TypeId} {z : Value} (hz : zeroT P t = some z) (hf : flat 8 z = true) : VStp P X ops ⟨dd, .alloc t, ty, pos, af, none⟩ e S K = K (.pointer (some ⟨S.next, 0, none⟩)) [] (S.push (.cells true t z.cells.toList)) [] false := by
 rw [zagr _ rfl]
 simp only [vhop, hz, Option.bind_some, hf, if_true]
theorem VS_box (t : TypeId) (x : Operand) : VStp P X ops ⟨dd, .box t x, ty, pos, af, none⟩ e S K = With (some (aeval e x)) (Hold fun v => isTup v = false ∧ With (vbox t v S) (Hold fun r => K r.v r.g r.S r.ws r.kf)) := by
 rw [zagr _ rfl]
 simp only [vhop]
 cases h : isTup (aeval e x) <;> simp [zaag, zaa8, Hold, h]
 cases vbox t (aeval e x) S <;> rfl
theorem zalc (t : TypeId) (n : Nat) (ps : Array (Nat × Operand)) : VStp P X ops ⟨some d, .buildSlice t n ps, ty, pos, af, none⟩ e S K = With (vbuild P t n (ps.toList.map fun p => (p.1, aeval e p.2))) (Hold fun r => K (vo (d, none) r.1 0 r.2) [thaw ((d, none) :: toksL (ps.toList.map fun p => aeval e p.2))] (S.thaw ((d, none) :: toksL (ps.toList.map fun p => aeval e p.2))) [] false) := by
 rw [zagr _ rfl]
 simp only [vhop]
 cases vbuild P t n (ps.toList.map fun p => (p.1, aeval e p.2)) <;> rfl
theorem zayv (t : TypeId) (a x : Operand) : VStp P X ops ⟨dd, .store t a x, ty, pos, af, none⟩ e S K = With (vstore P t (aeval e a) (aeval e x) S) (Hold fun r => K r.v r.g r.S r.ws r.kf) := by
 rw [zagr _ rfl]
 simp only [vhop]
 cases vstore P t (aeval e a) (aeval e x) S <;> rfl
theorem zaui (st xt : TypeId) (s x : Operand) : VStp P X ops ⟨some d, .call ⟨.builtin .append, #[s, x], #[st, xt]⟩, ty, pos, af, none⟩ e S K = With (vappend P d st xt (aeval e s) (aeval e x) S) (Hold fun r => K r.v r.g r.S r.ws r.kf) := by
 rw [zagr _ rfl]
 simp only [vhop, Option.getD_some]
 cases vappend P d st xt (aeval e s) (aeval e x) S <;> rfl
theorem zaam (f : FuncId) (a : Array Operand) (ts : Array TypeId) (hf : funcOk P f = true) : VStp P X ops ⟨dd, .call ⟨.value (.func f), a, ts⟩, ty, pos, af, none⟩ e S K = Vcallee P X f (a.toList.map (aeval e)) S (Hold K) := by
 rw [zagr _ rfl]
 simp only [vhop, aeval, hf, if_true]
 simp
 exact Iff.rfl
def asClo (P : Program) : Value → Option (FuncId × List Value × List Value)
 | .func (.func g) first captured => if funcOk P g then some (g, first.toList, captured.toList) else none
 | _ => none
theorem zakm (P : Program) (g : FuncId) (x y : List Value) : asClo P (.func (.func g) ⟨x⟩ ⟨y⟩) = if funcOk P g = true then some (g, x, y) else none := _root_.id rfl
theorem zayq (t : Tmp) (a : Array Operand) (ts : Array TypeId) : VStp P X ops ⟨dd, .call ⟨.value (.tmp t), a, ts⟩, ty, pos, af, none⟩ e S K = With (asClo P (eget e t)) (Hold fun c => Vcallee P X c.1 (c.2.1 ++ a.toList.map (aeval e) ++ c.2.2) S (Hold K)) := by
 rw [zagr _ rfl]
 simp only [vhop, aeval]
 generalize eget e t = v
 cases v with
 | func g x y =>
  cases g with
  | func g => simp only [asClo]; cases funcOk P g <;> rfl
  | _ => rfl
 | _ => rfl
theorem zays (op : Op) (j : Nat) (want : Bool) : VStp P X ops ⟨dd, op, ty, pos, af, some (j, want)⟩ e S K = With (ayielded ops e j want) (Hold fun b => if b = true then VStp P X ops ⟨dd, op, ty, pos, af, none⟩ e S K else K NR [] S [] false) := by
 simp only [VStp, awanted]
 cases ayielded ops e j want with
 | none => rfl
 | some b => cases b <;> rfl
theorem zag3 (f : FuncId) (args : List Value) : Vcallee P X f args S K = if okvL 0 false (mapOwnL (lend true) args) = true then Vf P X f (mapOwnL (lend true) args) [] fun v ws => (okv 0 (!(toksL args).isEmpty) v = true ∧ ws = []) ∧ K v [] S [] false
 else Vf P X f (mapOwnL (lend false) args) S.all fun v ws => (((toksL args).all (fun k => k.2.isSome) = true ∨ (okv S.next true v = true ∧ ws = [])) ∧ ws.all (lowW S.base.length) = true) ∧
  K v (if ws = [] then [] else [dropBoxes (ws.map (·.1))]) (S.puts ws) (ws.map (·.1)) false := _root_.id rfl
theorem zak3 (ks : List Tok) (k : Tok) (sz off : Nat) (l : List Value) (v : Value) : thaw ks (.own k sz off l) v = if k ∈ ks then vs 0 sz l else v := by
 simp only [thaw, fate]; split <;> rename_i h <;> split at h <;> simp_all
theorem zaka (k : Tok) (sz off : Nat) (l : List Value) (v : Value) : thawAll (.own k sz off l) v = vs 0 sz l := _root_.id rfl
theorem zagi (k' k : Tok) (sz off : Nat) (l : List Value) (v : Value) : scrub k' (.own k sz off l) v = if k = k' then stale else v := by
 simp only [scrub, fate]; split <;> rename_i h <;> split at h <;> simp_all
theorem zahz (k : Tok) (sz off : Nat) (l : List Value) (v : Value) : lend true (.own k sz off l) v = vs 1 sz l := _root_.id rfl
theorem zaxq (ks : List Tok) (d sz : Nat) (l : List Value) (v : Value) : thaw ks (.ro d sz l) v = v := _root_.id rfl
theorem zaml (d sz : Nat) (l : List Value) (v : Value) : thawAll (.ro d sz l) v = v := _root_.id rfl
theorem zatc (k' : Tok) (d sz : Nat) (l : List Value) (v : Value) : scrub k' (.ro d sz l) v = v := _root_.id rfl
theorem zaw7 (b : Bool) (d sz : Nat) (l : List Value) (v : Value) : lend b (.ro d sz l) v = v := _root_.id rfl
theorem zaw1 (is : List Nat) (d sz : Nat) (l : List Value) (v : Value) : dropBoxes is (.ro d sz l) v = v := _root_.id rfl
theorem zaw4 (f : Tok → Fate) (d sz : Nat) (l : List Value) (v : Value) : fate f (.ro d sz l) v = v := _root_.id rfl
theorem zaxo (ks : List Tok) (x v : Value) : thaw ks (.at x) v = v := _root_.id rfl
theorem zahx (k' : Tok) (x v : Value) : scrub k' (.at x) v = v := _root_.id rfl
theorem zaw0 (is : List Nat) (x v : Value) : dropBoxes is (.at x) v = v := _root_.id rfl
theorem zaw3 (f : Tok → Fate) (x v : Value) : fate f (.at x) v = v := _root_.id rfl
theorem zabf (g : Turn) : mapOwnL g [] = [] := _root_.id rfl
theorem zaal (g : Turn) (a : Value) (x : List Value) : mapOwnL g (a :: x) = mapOwn g a :: mapOwnL g x := _root_.id rfl
theorem zaf2 (n : Nat) (st : Bool) : okvL n st [] = true := _root_.id rfl
theorem zaee (n : Nat) (st : Bool) (a : Value) (x : List Value) : okvL n st (a :: x) = (okv n st a && okvL n st x) := _root_.id rfl
theorem zadf : toksL [] = [] := _root_.id rfl
theorem zabr (a : Value) (x : List Value) : toksL (a :: x) = toks a ++ toksL x := _root_.id rfl
theorem zaes (k : IntKind) (n : Int) : toks (.int k n) = [] := _root_.id rfl
theorem zao8 (b : Bool) : toks (.bool b) = [] := _root_.id rfl
theorem zacr (s : ByteArray) : toks (.string s) = [] := _root_.id rfl
theorem zaem (a : Option Addr) : toks (.pointer a) = [] := _root_.id rfl
theorem zamo (a : Option Addr) (n c : Nat) : toks (.slice a n c) = [] := _root_.id rfl
theorem zajc : toks .nilFunc = [] := _root_.id rfl
theorem zah1 : toks .nilIface = [] := _root_.id rfl
theorem za07 (B l : List Blk) (w : List Nat) : VH.next ⟨B, l, w⟩ = B.length + l.length := _root_.id rfl
theorem za1a (B l : List Blk) (w : List Nat) (b : Blk) : VH.push ⟨B, l, w⟩ b = ⟨B, l ++ [b], w⟩ := _root_.id rfl
theorem za01 (l : List Blk) (w : List Nat) (k : Nat) : VH.get ⟨[], l, w⟩ k = l.getD k .dead := by simp [VH.get]
theorem za1c (l : List Blk) (w : List Nat) (k : Nat) (b : Blk) : VH.put ⟨[], l, w⟩ k b = ⟨[], l.set k b, w⟩ := by simp [VH.put]
theorem za00 (B l : List Blk) (w : List Nat) (k : Nat) : VH.get ⟨B, l, w⟩ (B.length + k) = l.getD k .dead := by simp [VH.get, show ¬ (B.length + k < B.length) by omega]
theorem za1b (B l : List Blk) (w : List Nat) (k : Nat) (b : Blk) : VH.put ⟨B, l, w⟩ (B.length + k) b = ⟨B, l.set k b, w⟩ := by simp [VH.put, show ¬ (B.length + k < B.length) by omega]
theorem za24 (B l : List Blk) (w : List Nat) : VH.all ⟨B, l, w⟩ = B ++ l := _root_.id rfl
theorem zak7 (S : VH) : S.puts [] = S := _root_.id rfl
theorem zaua (S : VH) (i : Nat) (b : Blk) (r : List (Nat × Blk)) : S.puts ((i, b) :: r) = (S.put i b).puts r := _root_.id rfl
section
variable {t el : TypeId} {sz n off w : Nat} {u : TypeId}
def cellV : Value → Option Value
 | .agg _ => none
 | .chan _ => none
 | .tuple _ => none
 | v => some v
theorem zauz (k : IntKind) (n : Int) : cellV (.int k n) = some (.int k n) := _root_.id rfl
theorem zarr (b : Bool) : cellV (.bool b) = some (.bool b) := _root_.id rfl
theorem zam3 (s : ByteArray) : cellV (.string s) = some (.string s) := _root_.id rfl
theorem zazm (d sz : Nat) (l : List Value) : cellV (vs d sz l) = some (vs d sz l) := _root_.id rfl
theorem zazl (k : Tok) (sz off : Nat) (l : List Value) : cellV (vo k sz off l) = some (vo k sz off l) := _root_.id rfl
theorem zapz (a : Option Addr) (n c : Nat) : cellV (.slice a n c) = some (.slice a n c) := _root_.id rfl
theorem zalk (a : Option Addr) : cellV (.pointer a) = some (.pointer a) := _root_.id rfl
theorem zars (f : Go.Fn) (x y : Array Value) : cellV (.func f x y) = some (.func f x y) := _root_.id rfl
theorem zalj : cellV .nilFunc = some .nilFunc := _root_.id rfl
theorem zako : cellV .nilIface = some .nilIface := _root_.id rfl
theorem zapy (t : TypeId) (v : Value) : cellV (.iface t v) = some (.iface t v) := _root_.id rfl
theorem zahn (h : isAggT P t = false) (hk : knownT P t = true) (v : Value) : vget P t v = cellV v := by
 unfold vget
 cases hu : P.underlying t with
 | none => simp [knownT, hu] at hk
 | some d => simp only [h, Bool.false_eq_true, if_false]; cases v <;> rfl
def aggV (n : Nat) : Value → Option Value
 | .agg cs => if cs.size = n then some (.agg cs) else none
 | _ => none
theorem zay9 (n : Nat) (cs : List Value) : aggV n (.agg ⟨cs⟩) = if cs.length = n then some (.agg ⟨cs⟩) else none := _root_.id rfl
theorem zajf (h : isAggT P t = true) (hs : szT P t = some n) (v : Value) : vget P t v = aggV n v := by
 unfold vget
 cases hu : P.underlying t with
 | none => simp [isAggT, hu] at h
 | some d =>
  simp only [h, if_true]
  cases v <;> first | rfl | skip
  rename_i cs
  simp only [aggV, hs, Option.some.injEq]
  by_cases hc : n = cs.size
  ·rw [if_pos hc, if_pos hc.symm]
  ·rw [if_neg hc, if_neg (fun h => hc h.symm)]
theorem za05 (x : Value) : vload P t (vp x) S = vget P t x := _root_.id rfl
theorem zaqz (k : Tok) (j : Nat) (x : Value) : vload P t (vq k j x) S = vget P t x := _root_.id rfl
theorem zaq0 (k : Tok) (x : Value) : vload P t (vr k x) S = vget P t x := _root_.id rfl
theorem zaf7 (h : isAggT P t = false) (hk : knownT P t = true) (b o : Nat) : vload P t (.pointer (some ⟨b, o, none⟩)) S = (cellsIn (S.get b))[o]? := by
 show (match P.underlying t with | none => none | some _ => if isAggT P t then _ else vcell S ⟨b, o, none⟩) = _
 cases hu : P.underlying t with
 | none => simp [knownT, hu] at hk
 | some d =>
  simp only [h, Bool.false_eq_true, if_false, vcell]
  cases S.get b <;> simp [cellsIn]
theorem zahp (h : isAggT P t = true) (hs : szT P t = some n) (hn : n ≠ 0) (b o : Nat) : vload P t (.pointer (some ⟨b, o, none⟩)) S = if o + n ≤ (cellsIn (S.get b)).length then some (.agg ⟨((cellsIn (S.get b)).drop o).take n⟩) else none := by
 unfold vload
 simp only [zajg]
 cases hu : P.underlying t with
 | none => simp [isAggT, hu] at h
 | some d =>
  simp only [h, if_true, hs, Option.bind_some, vcells, hn, if_false]
  have hnil : ¬ o + n ≤ ([] : List Value).length := by simp; omega
  cases S.get b with
  | cells o' e c =>
   show Option.map _ (if o + n ≤ c.length ∧ True then some ((c.drop o).take n) else none) = if o + n ≤ c.length then some (Value.agg ⟨(c.drop o).take n⟩) else none
   by_cases hc : o + n ≤ c.length
   ·rw [if_pos ⟨hc, trivial⟩, if_pos hc]; rfl
   ·rw [if_neg (fun q => hc q.1), if_neg hc]; rfl
  | dead => exact (if_neg hnil).symm
  | map es => exact (if_neg hnil).symm
  | iter s q => exact (if_neg hnil).symm
  | bld l => exact (if_neg hnil).symm
theorem zarv (o : Bool) (e : TypeId) (c : List Value) : cellsIn (.cells o e c) = c := _root_.id rfl
theorem zaav (i : Nat) (h : place P t i = some (off, w)) (hw : w ≠ 0) (b o : Nat) : vfield P t (.pointer (some ⟨b, o, none⟩)) i = some (.pointer (some ⟨b, o + off, none⟩)) := by
 show ((place P t i).bind fun p => if p.2 ≠ 0 ∧ (none : Option Nat) = none then some (Value.pointer (some ⟨b, o + p.1, none⟩)) else none) = _
 simp [h, hw]
theorem zawd (x : Value) (i : Nat) : vfield P t (vp x) i = (vpart P t x i).map vp := _root_.id rfl
theorem zant (k : Tok) (j : Nat) (x : Value) (i : Nat) : vfield P t (vq k j x) i = (vpart P t x i).map (vr k) := _root_.id rfl
theorem zanu (k : Tok) (x : Value) (i : Nat) : vfield P t (vr k x) i = (vpart P t x i).map (vr k) := _root_.id rfl
theorem zabg (i : Nat) (h : place P t i = some (off, w)) (hw : w ≠ 0) (hf : ftype P t i = some u) (ha : isAggT P u = false) (hk : knownT P u = true) (cs : List Value) : vpart P t (.agg ⟨cs⟩) i = (cs[off]?).bind fun y => if isAggV y then none else some y := by
 simp only [vpart, h, hf, Option.bind_some, hw, ne_eq, not_false_eq_true, if_true, zarh ha hk, ha, Bool.false_or]
 have : (Array.mk cs)[off]? = cs[off]? := by simp
 rw [this]
 cases cs[off]? with
 | none => rfl
 | some y => simp only [Option.bind_some]; cases isAggV y <;> rfl
theorem zahq (i : Nat) (h : place P t i = some (off, w)) (hw : w ≠ 0) (hf : ftype P t i = some u) (ha : isAggT P u = true) (hs : szT P u = some n) (cs : List Value) : vpart P t (.agg ⟨cs⟩) i = if off + n ≤ cs.length then some (.agg ⟨(cs.drop off).take n⟩) else none := by
 simp only [vpart, h, hf, Option.bind_some, hw, ne_eq, not_false_eq_true, if_true, zaus ha hs, ha, Bool.true_or]
 have e : (Array.mk cs).extract off (off + n) = ⟨(cs.drop off).take n⟩ := by apply Array.ext'; simp [List.extract_eq_take_drop]
 rw [e]
 have : (Array.mk cs).size = cs.length := rfl
 rw [this]
 split <;> rfl
theorem zase (k : IntKind) (n : Int) : isAggV (.int k n) = false := _root_.id rfl
theorem zap8 (b : Bool) : isAggV (.bool b) = false := _root_.id rfl
theorem zals (s : ByteArray) : isAggV (.string s) = false := _root_.id rfl
theorem zanb (a : Option Addr) (n c : Nat) : isAggV (.slice a n c) = false := _root_.id rfl
theorem zavo (d sz : Nat) (l : List Value) : isAggV (vs d sz l) = false := _root_.id rfl
theorem zavn (k : Tok) (sz off : Nat) (l : List Value) : isAggV (vo k sz off l) = false := _root_.id rfl
theorem zap9 (f : Go.Fn) (x y : Array Value) : isAggV (.func f x y) = false := _root_.id rfl
theorem vix_ro (h : elemT P t = some el) (hs : szT P el = some sz) (d : Nat) (l : List Value) (k : IntKind) (j : Int) : vindexAddr P t (vs d sz l) (.int k j) = if 0 ≤ j then (l[j.toNat]?).map vp else none := by
 show ((elemT P t).bind fun e => if szT P e = some sz ∧ 0 ≤ j then (l[j.toNat]?).map vp else none) = _
 simp [h, hs]
theorem zakc (h : elemT P t = some el) (hs : szT P el = some sz) (q : Tok) (off : Nat) (l : List Value) (k : IntKind) (j : Int) : vindexAddr P t (vo q sz off l) (.int k j) = if 0 ≤ j then (l[j.toNat]?).map (vq q (off + j.toNat)) else none := by
 show ((elemT P t).bind fun e => if szT P e = some sz ∧ 0 ≤ j then (l[j.toNat]?).map (vq q (off + j.toNat)) else none) = _
 simp [h, hs]
theorem za0y (h : P.underlying t = some .string) (s : ByteArray) (lo hi : Option Value) : vcut P t (.string s) lo hi none = (abound hi s.size).bind fun h => (abound lo 0).bind fun b => if 0 ≤ b ∧ b ≤ h ∧ h ≤ s.size then some (.string (s.extract b.toNat h.toNat)) else none := by
 show (match P.underlying t with | some .string => (abound hi s.size).bind fun h => (abound lo 0).bind fun b => if (none : Option Value) = none ∧ 0 ≤ b ∧ b ≤ h ∧ h ≤ s.size then some (Value.string (s.extract b.toNat h.toNat)) else none | _ => none) = _
 simp [h]
theorem zamv (h : elemT P t = some el) (d sz : Nat) (l : List Value) : vlen P t (vs d sz l) = some (.int .i64 l.length) := by
 show (if (elemT P t).isSome then some (Value.int .i64 l.length) else none) = _
 simp [h]
theorem zaji (h : elemT P t = some el) (q : Tok) (sz off : Nat) (l : List Value) : vlen P t (vo q sz off l) = some (.int .i64 l.length) := by
 show (if (elemT P t).isSome then some (Value.int .i64 l.length) else none) = _
 simp [h]
theorem zahy (h : elemT P t = some el) : vlen P t (.slice none 0 0) = some (.int .i64 0) := by
 show (if (elemT P t).isSome then some (Value.int .i64 0) else none) = _
 simp [h]
theorem za04 (h : P.underlying t = some .string) (s : ByteArray) : vlen P t (.string s) = some (.int .i64 s.size) := by
 show (match P.underlying t with | some .string => some (Value.int .i64 s.size) | _ => none) = _
 simp [h]
theorem zamq {xt : TypeId} {bytes : Nat} (h : elemT P t = some el) (hi : infoT P el = some (sz, bytes)) (hx : takesT P xt = true) (h0 : sz ≠ 0) (d : Nat) (s x : Value) : vappend P d t xt s x S = (velems sz x).bind fun new => vgrow d sz bytes s new S := by
 simp [vappend, h, hi, hx, Nat.pos_of_ne_zero h0]
theorem zapd (d sz : Nat) (l : List Value) : velems sz (vs d sz l) = some l := by
 show (if sz = sz then some l else none) = _
 simp
theorem zamt (q : Tok) (sz off : Nat) (l : List Value) : velems sz (vo q sz off l) = some l := by
 show (if sz = sz then some l else none) = _
 simp
theorem zat1 (sz : Nat) : velems sz (.slice none 0 0) = some [] := _root_.id rfl
theorem zapi (d sz bytes : Nat) (a : Value) (l : List Value) (S : VH) : vgrow d sz bytes (.slice none 0 0) (a :: l) S = if (l.length + 1) * bytes ≤ 140737488355328 ∧ l.length + 1 ≤ 9223372036854775807 then some ⟨vo (d, none) sz 0 (a :: l), [thaw [(d, none)]], S, [], false⟩ else none := _root_.id rfl
theorem zapj (d sz bytes off : Nat) (k : Tok) (a : Value) (l m : List Value) (S : VH) : vgrow d sz bytes (vo k sz off m) (a :: l) S = if (m.length + (l.length + 1)) * bytes ≤ 140737488355328 ∧ m.length + (l.length + 1) ≤ 9223372036854775807 then some ⟨vo k sz 0 (m ++ a :: l), [scrub k], S.turn (scrub k) (ownBox k), ownBox k, k.2.isNone⟩ else none := by
 show (if sz = sz ∧ _ then _ else _) = _
 simp
theorem zaqi (d : Nat) : ownBox (d, none) = [] := _root_.id rfl
theorem zaqj (i o : Nat) : ownBox (i, some o) = [i] := _root_.id rfl
theorem zawn (g : Turn) : S.turn g [] = S := _root_.id rfl
theorem zaud (g : Turn) (i : Nat) (r : List Nat) : S.turn g (i :: r) = (S.put i (mapB (mapOwn g) (S.get i))).turn g r := _root_.id rfl
theorem zawm (d : Nat) (ks : List Tok) : S.thaw ((d, none) :: ks) = S.turn (thaw ((d, none) :: ks)) (boxesOf ks) := _root_.id rfl
theorem zapx : boxesOf [] = [] := _root_.id rfl
theorem zam1 (d : Nat) (ks : List Tok) : boxesOf ((d, none) :: ks) = boxesOf ks := _root_.id rfl
theorem zam2 (i o : Nat) (ks : List Tok) : boxesOf ((i, some o) :: ks) = i :: boxesOf ks := _root_.id rfl
def partsOk (sz len : Nat) (parts : List (Nat × Value)) : Bool := parts.all fun p => decide (p.1 < len) && !isTup p.2 && p.2.cells.size == sz && okv 0 true (mapOwn thawAll p.2)
theorem zahm {z : Value} {bytes : Nat} (h : elemT P t = some el) (hi : infoT P el = some (sz, bytes)) (hz : zeroT P el = some z) (hf : flat 8 z = true) (ho : okv 0 true z = true) (hc : z.cells.size = sz) (ht : isTup z = false) (h0 : sz ≠ 0) (len : Nat) (parts : List (Nat × Value)) (hl : len * sz ≤ 16777216) :
    vbuild P t len parts = if partsOk sz len parts = true then some (sz, vfill (List.replicate len z) (parts.map fun p => (p.1, mapOwn thawAll p.2))) else none := by
 unfold vbuild
 simp only [h, hi, hz, Option.bind_some]
 by_cases hp : partsOk sz len parts = true
 ·rw [if_pos ⟨hl, Nat.pos_of_ne_zero h0, hf, ho, hc, ht, hp⟩, if_pos hp]
 ·rw [if_neg (fun q => hp q.2.2.2.2.2.2), if_neg hp]
theorem zaqk (sz len : Nat) : partsOk sz len [] = true := _root_.id rfl
theorem zanj (sz len i : Nat) (v : Value) (r : List (Nat × Value)) : partsOk sz len ((i, v) :: r) = (decide (i < len) && !isTup v && v.cells.size == sz && okv 0 true (mapOwn thawAll v) && partsOk sz len r) := _root_.id rfl
theorem zawe (l : List Value) : vfill l [] = l := _root_.id rfl
theorem zat2 (l : List Value) (i : Nat) (v : Value) (r : List (Nat × Value)) : vfill l ((i, v) :: r) = vfill (l.set i v) r := _root_.id rfl
theorem zafl (hs : szT P t = some n) (b o : Nat) (x : Value) : vstore P t (.pointer (some ⟨b, o, none⟩)) x S = match S.get b with
    | .cells true e c => if x.cells.size = n ∧ isTup x = false ∧ o + n ≤ c.length then vlay b o x.cells.toList S e else none
    | _ => none := by
 show (match S.get b with | .cells true e c => if szT P t = some x.cells.size ∧ isTup x = false ∧ o + x.cells.size ≤ c.length ∧ (none : Option Nat) = none then vlay b o x.cells.toList S e else none | _ => none) = _
 cases S.get b with
 | cells o' e c =>
  cases o' with
  | false => rfl
  | true =>
   simp only [hs, Option.some.injEq, and_true]
   by_cases h : x.cells.size = n
   ·subst h; simp
   ·rw [if_neg (fun k => h k.1.symm), if_neg (fun k => h k.1)]
 | _ => rfl
theorem zawg (i off : Nat) (cs : List Value) (S : VH) (e : TypeId) (hf : toksL cs = []) (hok : cellsOk (if i < S.base.length then S.base.length else S.next) (decide (i < S.base.length)) i off cs = true) :
    vlay i off cs S e = some ⟨undef, [], S.put i (.cells true e (setAll (cellsIn (S.get i)) off cs)), [i], false⟩ := by
 have hfo : foreign i off cs = [] := by
  cases h : foreign i off cs with
  | nil => rfl
  | cons k l =>
   obtain ⟨x, hx, hk⟩ := zaev (k := k) cs off (by rw [h]; simp)
   have := zadk hk
   rw [zacx, List.flatMap_eq_nil_iff] at hf
   rw [hf x hx] at this
   cases this
 unfold vlay
 simp only [hfo, if_true]
 rw [if_pos hok]
 simp only [vput, hf, if_true, zaeh cs off hf, List.nil_append]
theorem zawb (t : TypeId) (x : Value) (S : VH) (hf : toksL x.cells.toList = []) (hok : cellsOk S.next false S.next 0 x.cells.toList = true) :
    vbox t x S = some ⟨.pointer (some ⟨S.next, 0, none⟩), [], S.push (.cells true t x.cells.toList), [], false⟩ := by
 have hfo : foreign S.next 0 x.cells.toList = [] := by
  cases h : foreign S.next 0 x.cells.toList with
  | nil => rfl
  | cons k l =>
   obtain ⟨y, hy, hk⟩ := zaev (k := k) x.cells.toList 0 (by rw [h]; simp)
   have := zadk hk
   rw [zacx, List.flatMap_eq_nil_iff] at hf
   rw [hf y hy] at this
   cases this
 unfold vbox
 simp only [hfo, if_true]
 unfold vboxed
 rw [if_pos hok]
 simp only [hf, if_true, zaeh _ 0 hf, List.nil_append]
theorem za09 (a : Addr) : vnil (.pointer (some a)) = some (.pointer (some a)) := _root_.id rfl
theorem za3e (x : Value) : vnil (vp x) = some (vp x) := _root_.id rfl
theorem zat7 (k : Tok) (j : Nat) (x : Value) : vnil (vq k j x) = some (vq k j x) := _root_.id rfl
theorem za08 (f : FuncId) (x y : Array Value) : vnil (.func (.func f) x y) = some (.func (.func f) x y) := _root_.id rfl
theorem za0x (o : BinOp) (x y : Operand) (k l : IntKind) (a b : Int) : vbin P o t x y (.int k a) (.int l b) = abin P o t x y (.int k a) (.int l b) := _root_.id rfl
theorem zawa (o : BinOp) (x y : Operand) (a b : Bool) : vbin P o t x y (.bool a) (.bool b) = abin P o t x y (.bool a) (.bool b) := _root_.id rfl
theorem zaqv (o : BinOp) (x y : Operand) (a b : ByteArray) : vbin P o t x y (.string a) (.string b) = abin P o t x y (.string a) (.string b) := _root_.id rfl
theorem zajd {u : TypeId} {ms : Array (String × TypeId)} {v : Value} (x y : Operand) (hu : P.underlying t = some (.interface ms)) : vbin P .neq t x y (.iface u v) .nilIface = some (.bool true) := by
 unfold vbin
 rw [if_neg (by simp [isNilSlice])]
 by_cases hf : (flat 8 (.iface u v) && flat 8 .nilIface) = true
 ·rw [if_pos hf]; exact (zaig hu).2
 ·rw [if_neg hf, hu]
theorem zaty (o : BinOp) (x y : Operand) (a b : Array Value) (ha : flat 8 (.agg a) = true) (hb : flat 8 (.agg b) = true) : vbin P o t x y (.agg a) (.agg b) = abin P o t x y (.agg a) (.agg b) := by
 unfold vbin
 rw [if_neg (by simp [isSl, za02]), if_pos (by simp [ha, hb])]
end
end
end Go.Proofs.YtliemjbafgnnbaaDoor.Abs
