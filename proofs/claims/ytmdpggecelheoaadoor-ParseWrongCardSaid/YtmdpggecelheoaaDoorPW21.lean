/- How a call's answer is shown step by step, over values with their slices: rules, the fuel hidden. -/
import Derived.Test.YtmdpggecelheoaaDoorPW20
set_option linter.unusedVariables false
set_option linter.unusedSimpArgs false
namespace Go.Proofs.YtmdpggecelheoaaDoor.Abs
open Go

def VCall.le (K K' : VCall) : Prop := ∀ f a B r, K f a B = some r → K' f a B = some r
section
variable {P : Program} {K K' : VCall}
theorem vcall_mono (h : K.le K') {f : FuncId} {args : List Value} {S : VH} {r : VRes} (hr : vcall K f args S = some r) : vcall K' f args S = some r := by
  unfold vcall at hr ⊢
  split at hr
  · rename_i hc
    rw [if_pos hc]
    rw [Option.bind_eq_some_iff] at hr ⊢
    obtain ⟨x, hx, hr⟩ := hr
    exact ⟨x, h _ _ _ _ hx, hr⟩
  · rename_i hc
    rw [if_neg hc]
    rw [Option.bind_eq_some_iff] at hr ⊢
    obtain ⟨x, hx, hr⟩ := hr
    exact ⟨x, h _ _ _ _ hx, hr⟩
theorem vstepOp_mono (h : K.le K') {o : Oper} {e : Env} {S : VH} {r : VRes} (hr : vstepOp P K o e S = some r) : vstepOp P K' o e S = some r := by
  unfold vstepOp at hr ⊢
  split at hr
  · rename_i hl; rw [if_pos hl]; exact hr
  · rename_i hl
    rw [if_neg hl]
    rw [Option.bind_eq_some_iff] at hr ⊢
    obtain ⟨x, hx, hr⟩ := hr
    refine ⟨x, hx, ?_⟩
    cases x with
    | val r => exact hr
    | enter f args => exact vcall_mono h hr
theorem vstepG_mono (h : K.le K') {ops : Array Oper} {o : Oper} {e : Env} {S : VH} {r : VStepped} (hr : vstepG P K ops o e S = some r) : vstepG P K' ops o e S = some r := by
  unfold vstepG at hr ⊢
  rw [Option.bind_eq_some_iff] at hr ⊢
  obtain ⟨t, ht, hr⟩ := hr
  refine ⟨t, ht, ?_⟩
  cases t with
  | false => exact hr
  | true =>
    simp only [if_true, Option.map_eq_some_iff] at hr ⊢
    obtain ⟨x, hx, e⟩ := hr
    exact ⟨x, vstepOp_mono h hx, e⟩
theorem vrunL_mono (h : K.le K') {ops : Array Oper} : ∀ (l : List Oper) (e : Env) (S : VH) (r : Env × VH), vrunL P K ops l e S = some r → vrunL P K' ops l e S = some r
  | [], _, _, _, hr => hr
  | o :: l, e, S, r, hr => by
    simp only [vrunL, Option.bind_eq_some_iff] at hr ⊢
    obtain ⟨x, hx, hr⟩ := hr
    exact ⟨x, vstepG_mono h hx, vrunL_mono h l _ _ r hr⟩
theorem vrunE_mono (h : K.le K') {ops : Array Oper} {sd : Bool} {S0 : VH} : ∀ (l : List Oper) (T : List (List Nat)) (es e : Env) (S : VH) (Hs : List (List Nat × Bool)) (ob : List VObl) (r : Env × VH), vrunE P K ops sd S0 T l es e S Hs ob = some r → vrunE P K' ops sd S0 T l es e S Hs ob = some r
  | [], T, es, e, S, Hs, ob, r, hr => by cases T <;> exact hr
  | o :: l, [], es, e, S, Hs, ob, r, hr => by simp [vrunE] at hr
  | o :: l, t :: T, es, e, S, Hs, ob, r, hr => by
    simp only [vrunE, Option.bind_eq_some_iff] at hr ⊢
    obtain ⟨w, hw, nb, hnb, x, hx, hr⟩ := hr
    exact ⟨w, hw, nb, hnb, x, vstepG_mono h hx, vrunE_mono h l T _ _ _ _ _ r hr⟩
theorem vrunR_mono (h : K.le K') {ops : Array Oper} {draw : Bool} {e : Env} {S : VH} {r : Env × VH} (hr : vrunR P K ops draw e S = some r) : vrunR P K' ops draw e S = some r := by
  unfold vrunR at hr ⊢
  split at hr
  · rename_i hd
    rw [if_pos hd]
    split at hr
    · rename_i hd2; rw [if_pos hd2]; exact vrunE_mono h _ _ _ _ _ _ _ _ hr
    · rename_i hd2
      rw [if_neg hd2]
      split at hr
      · rename_i hd3; rw [if_pos hd3]; exact vrunE_mono h _ _ _ _ _ _ _ _ hr
      · cases hr
  · rename_i hd
    rw [if_neg hd]
    exact vrunL_mono h _ _ _ _ hr
theorem viter_mono {g g' : Env → VH → Option (Ex × Env × VH)} (h : ∀ e H r, g e H = some r → g' e H = some r) : ∀ (n n' : Nat), n ≤ n' → ∀ e H r, viter g n e H = some r → viter g' n' e H = some r
  | 0, _, _, _, _, _, hr => by simp [viter] at hr
  | n + 1, 0, hn, _, _, _, _ => by omega
  | n + 1, n' + 1, hn, e, H, r, hr => by
    simp only [viter, Option.bind_eq_some_iff] at hr ⊢
    obtain ⟨x, hx, hr⟩ := hr
    refine ⟨x, h _ _ _ hx, ?_⟩
    split at hr
    · exact viter_mono h n n' (by omega) _ _ _ hr
    · exact hr
theorem vrunC_mono (h : K.le K') {n n' : Nat} (hn : n ≤ n') : ∀ (c : Code) (e : Env) (H : VH) (r : Ex × Env × VH), vrunC P K n c e H = some r → vrunC P K' n' c e H = some r := by
  intro c
  induction c with
  | region id ops draw =>
    intro e H r hr
    simp only [vrunC, Option.map_eq_some_iff] at hr ⊢
    obtain ⟨x, hx, hr⟩ := hr
    exact ⟨x, vrunR_mono h hx, hr⟩
  | seq a b iha ihb =>
    intro e H r hr
    simp only [vrunC, Option.bind_eq_some_iff] at hr ⊢
    obtain ⟨x, hx, hr⟩ := hr
    refine ⟨x, iha _ _ _ hx, ?_⟩
    split at hr
    · exact ihb _ _ _ hr
    · exact hr
  | cond o a b iha ihb =>
    intro e H r hr
    simp only [vrunC] at hr ⊢
    split at hr
    · rename_i t ht
      cases t with
      | true => exact iha _ _ _ hr
      | false => exact ihb _ _ _ hr
    · cases hr
  | block id c ih =>
    intro e H r hr
    simp only [vrunC, Option.map_eq_some_iff] at hr ⊢
    obtain ⟨x, hx, hr⟩ := hr
    exact ⟨x, ih _ _ _ hx, hr⟩
  | loop c ih =>
    intro e H r hr
    simp only [vrunC] at hr ⊢
    exact viter_mono ih n n' hn _ _ _ hr
  | skip => intro e H r hr; simpa [vrunC] using hr
  | exit id => intro e H r hr; simpa [vrunC] using hr
  | ret => intro e H r hr; simpa [vrunC] using hr
  | _ => intro e H r hr; simp [vrunC] at hr
theorem vrun_mono {X : VOuter} : ∀ (n n' : Nat), n ≤ n' → VCall.le (vrun P X n) (vrun P X n')
  | 0, _, _ => fun f a H r hr => by simp [vrun] at hr
  | n + 1, 0, hn => by omega
  | n + 1, n' + 1, hn => fun f a H r hr => by
    have ih := vrun_mono (X := X) n n' (by omega)
    simp only [vrun] at hr ⊢
    split at hr
    · exact hr
    · split at hr
      · cases hr
      · split at hr
        · cases hr
        · split at hr
          · rename_i hok
            rw [if_pos hok]
            simp only [Option.bind_eq_some_iff] at hr ⊢
            obtain ⟨x, hx, hr⟩ := hr
            exact ⟨x, vrunC_mono ih (by omega) _ _ _ _ hx, hr⟩
          · cases hr
end

/-! ### The rules -/
section
variable (P : Program) (X : VOuter)
/-- The call comes to an end; Q holds of what it tells. -/
def Vf (f : FuncId) (args : List Value) (B : List Blk) (Q : Value → List (Nat × Blk) → Prop) : Prop := ∃ n r, vrun P X n f args B = some r ∧ Q r.1 r.2
def Vc (c : Code) (e : Env) (S : VH) (Q : Ex → Env → VH → Prop) : Prop := ∃ n r, vrunC P (vrun P X n) n c e S = some r ∧ Q r.1 r.2.1 r.2.2
abbrev VCont := Value → List Turn → VH → List Nat → Bool → Prop
/-- A call of a function: without pointers the boxes are out of sight. -/
def Vcallee (f : FuncId) (args : List Value) (S : VH) (Q : VCont) : Prop :=
  if okvL 0 false (mapOwnL (lend true) args) = true then Vf P X f (mapOwnL (lend true) args) [] fun v ws => (okv 0 (!(toksL args).isEmpty) v = true ∧ ws = []) ∧ Q v [] S [] false
  else Vf P X f (mapOwnL (lend false) args) S.all fun v ws => (((toksL args).all (fun k => k.2.isSome) = true ∨ (okv S.next true v = true ∧ ws = [])) ∧ ws.all (lowW S.base.length) = true) ∧
    Q v (if ws = [] then [] else [dropBoxes (ws.map (·.1))]) (S.puts ws) (ws.map (·.1)) false
/-- One operation. -/
def VStp (ops : Array Oper) (o : Oper) (e : Env) (S : VH) (Q : VCont) : Prop := match awanted ops o e with
  | none => False
  | some false => Q NR [] S [] false
  | some true => if light P o.op then With (vlop P (aeval e) S o.op) fun v => Q v [] S [] false
    else match vhop P (dname o) (aeval e) S o.op with
      | none => False
      | some (.val r) => Q r.v r.g r.S r.ws r.kf
      | some (.enter f args) => Vcallee P X f args S Q
def VReg (ops : Array Oper) : List Oper → Env → VH → (Env → VH → Prop) → Prop
  | [], e, S, Q => Q e S
  | o :: rest, e, S, Q => VStp P X ops o e S fun v g S' _ _ => VReg ops rest (eput (emap g e) o.dst v) S' Q
def VE (ops : Array Oper) (sd : Bool) (S0 : VH) : List (List Nat) → List Oper → Env → Env → VH → List (List Nat × Bool) → List VObl → (Env → VH → Prop) → Prop
  | _, [], es, e, S, Hs, ob, Q => ob.all (vspan Hs.reverse) = true ∧ Q e S
  | t :: T, o :: rest, es, e, S, Hs, ob, Q => With (awanted ops o e) fun w =>
      With (if t = [] then some [] else if w = false then some [⟨t, Hs.length, .ro⟩] else vobl o t Hs.length (sd && !isGone (vshade P { o with guard := none } es S0 Hs)) e) fun nb =>
      VStp P X ops o e S fun v g S' ws kf => VE ops sd S0 T rest (if sd then eput es o.dst (vshade P o es S0 Hs) else es) (eput (emap g e) o.dst v) S' (if light P o.op then Hs else (ws, kf) :: Hs) (nb ++ ob) Q
  | [], _ :: _, _, _, _, _, _, _ => False
end
section
variable {P : Program} {X : VOuter}
theorem Vf.mono {f : FuncId} {args : List Value} {B : List Blk} {Q Q' : Value → List (Nat × Blk) → Prop} (h : Vf P X f args B Q) (hq : ∀ v w, Q v w → Q' v w) : Vf P X f args B Q' := by
  obtain ⟨n, r, h1, h2⟩ := h
  exact ⟨n, r, h1, hq _ _ h2⟩
theorem Vc.mono {c : Code} {e : Env} {S : VH} {Q Q' : Ex → Env → VH → Prop} (h : Vc P X c e S Q) (hq : ∀ x e S, Q x e S → Q' x e S) : Vc P X c e S Q' := by
  obtain ⟨n, r, h1, h2⟩ := h
  exact ⟨n, r, h1, hq _ _ _ h2⟩
theorem vcallee_run {f : FuncId} {args : List Value} {S : VH} {Q : VCont} (h : Vcallee P X f args S Q) : ∃ n r, vcall (vrun P X n) f args S = some r ∧ Q r.v r.g r.S r.ws r.kf := by
  unfold Vcallee at h
  split at h
  · rename_i hc
    obtain ⟨n, r, h1, h2, h3⟩ := h
    refine ⟨n, ⟨r.1, [], S, [], false⟩, ?_, h3⟩
    unfold vcall
    rw [if_pos hc, h1]
    simp only [Option.bind_some]
    rw [if_pos h2]
  · rename_i hc
    obtain ⟨n, r, h1, h2, h3⟩ := h
    refine ⟨n, ⟨r.1, if r.2 = [] then [] else [dropBoxes (r.2.map (·.1))], S.puts r.2, r.2.map (·.1), false⟩, ?_, h3⟩
    unfold vcall
    rw [if_neg hc]
    rw [VH.all] at h1
    rw [h1]
    simp only [Option.bind_some]
    rw [if_pos h2]
theorem vstp_run {ops : Array Oper} {o : Oper} {e : Env} {S : VH} {Q : VCont} (h : VStp P X ops o e S Q) : ∃ n r v g, vstepG P (vrun P X n) ops o e S = some r ∧ r.e = eput (emap g e) o.dst v ∧ Q v g r.S r.ws r.kf := by
  unfold VStp at h
  split at h
  · exact h.elim
  · rename_i hw
    exact ⟨0, ⟨eput e o.dst NR, S, [], false⟩, NR, [], by simp [vstepG, hw], rfl, h⟩
  · rename_i hw
    split at h
    · rename_i hl
      cases hv : vlop P (aeval e) S o.op with
      | none => rw [hv] at h; exact h.elim
      | some v =>
        rw [hv] at h
        exact ⟨0, ⟨eput e o.dst v, S, [], false⟩, v, [], by simp [vstepG, hw, vstepOp, hl, hv, emap], rfl, h⟩
    · rename_i hl
      split at h
      · exact h.elim
      · rename_i r hv
        exact ⟨0, ⟨eput (emap r.g e) o.dst r.v, r.S, r.ws, r.kf⟩, r.v, r.g, by simp [vstepG, hw, vstepOp, hl, hv], rfl, h⟩
      · rename_i f args hv
        obtain ⟨n, r, h1, h2⟩ := vcallee_run h
        exact ⟨n, ⟨eput (emap r.g e) o.dst r.v, r.S, r.ws, r.kf⟩, r.v, r.g, by simp [vstepG, hw, vstepOp, hl, hv, h1], rfl, h2⟩
theorem VReg_run {ops : Array Oper} : ∀ (l : List Oper) (e : Env) (S : VH) (Q : Env → VH → Prop), VReg P X ops l e S Q → ∃ n r, vrunL P (vrun P X n) ops l e S = some r ∧ Q r.1 r.2
  | [], e, S, Q, h => ⟨0, (e, S), rfl, h⟩
  | o :: l, e, S, Q, h => by
    obtain ⟨n, r, v, g, h1, h2, h3⟩ := vstp_run h
    obtain ⟨m, r', h4, h5⟩ := VReg_run l _ _ Q h3
    refine ⟨max n m, r', ?_, h5⟩
    simp only [vrunL]
    rw [vstepG_mono (vrun_mono n (max n m) (Nat.le_max_left _ _)) h1]
    simp only [Option.bind_some, h2]
    exact vrunL_mono (vrun_mono m (max n m) (Nat.le_max_right _ _)) _ _ _ _ h4
theorem VE_run {ops : Array Oper} {sd : Bool} {S0 : VH} : ∀ (l : List Oper) (T : List (List Nat)) (es e : Env) (S : VH) (Hs : List (List Nat × Bool)) (ob : List VObl) (Q : Env → VH → Prop), VE P X ops sd S0 T l es e S Hs ob Q → ∃ n r, vrunE P (vrun P X n) ops sd S0 T l es e S Hs ob = some r ∧ Q r.1 r.2
  | [], T, es, e, S, Hs, ob, Q, h => by
    have h' : ob.all (vspan Hs.reverse) = true ∧ Q e S := by cases T <;> exact h
    refine ⟨0, (e, S), ?_, h'.2⟩
    cases T <;> (simp only [vrunE]; rw [if_pos h'.1])
  | o :: l, [], es, e, S, Hs, ob, Q, h => h.elim
  | o :: l, t :: T, es, e, S, Hs, ob, Q, h => by
    simp only [VE] at h
    cases hw : awanted ops o e with
    | none => rw [hw] at h; exact h.elim
    | some w =>
      rw [hw, With_some] at h
      cases hnb : (if t = [] then some [] else if w = false then some [⟨t, Hs.length, .ro⟩] else vobl o t Hs.length (sd && !isGone (vshade P { o with guard := none } es S0 Hs)) e) with
      | none => rw [hnb] at h; exact h.elim
      | some nb =>
        rw [hnb, With_some] at h
        obtain ⟨n, r, v, g, h1, h2, h3⟩ := vstp_run h
        obtain ⟨m, r', h4, h5⟩ := VE_run l T _ _ _ _ _ Q h3
        refine ⟨max n m, r', ?_, h5⟩
        simp only [vrunE, hw, Option.bind_some, hnb]
        rw [vstepG_mono (vrun_mono n (max n m) (Nat.le_max_left _ _)) h1]
        simp only [Option.bind_some, h2]
        exact vrunE_mono (vrun_mono m (max n m) (Nat.le_max_right _ _)) _ _ _ _ _ _ _ _ h4
theorem Vc_skip {e : Env} {S : VH} {Q : Ex → Env → VH → Prop} (h : Q .normal e S) : Vc P X .skip e S Q := ⟨0, (.normal, e, S), rfl, h⟩
theorem Vc_ret {e : Env} {S : VH} {Q : Ex → Env → VH → Prop} (h : Q .ret e S) : Vc P X .ret e S Q := ⟨0, (.ret, e, S), rfl, h⟩
theorem Vc_exit {id : Nat} {e : Env} {S : VH} {Q : Ex → Env → VH → Prop} (h : Q (.exit id) e S) : Vc P X (.exit id) e S Q := ⟨0, (.exit id, e, S), rfl, h⟩
theorem Vc_region {id : Nat} {ops : Array Oper} {e : Env} {S : VH} {Q : Ex → Env → VH → Prop} (h : VReg P X ops ops.toList e S fun e' S' => Q .normal e' S') : Vc P X (.region id ops false) e S Q := by
  obtain ⟨n, r, h1, h2⟩ := VReg_run _ _ _ _ h
  exact ⟨n, (.normal, r.1, r.2), by simp [vrunC, vrunR, h1], h2⟩
theorem Vc_open {id : Nat} {ops : Array Oper} {e : Env} {S : VH} {Q : Ex → Env → VH → Prop} (T : List (List Nat)) (sd : Bool) (hok : drawOk P ops = true) (hT : othersAll P ops = T) (hsd : early P ops T = sd) (h : VE P X ops sd S T ops.toList e e S [] [] fun e' S' => Q .normal e' S') : Vc P X (.region id ops true) e S Q := by
  obtain ⟨n, r, h1, h2⟩ := VE_run _ _ _ _ _ _ _ _ h
  exact ⟨n, (.normal, r.1, r.2), by simp only [vrunC, vrunR, if_true, hok, hT, hsd, h1, Option.map_some], h2⟩
theorem Vc_open2 {id : Nat} {ops : Array Oper} {e : Env} {S : VH} {Q : Ex → Env → VH → Prop} (T : List (List Nat)) (sd : Bool) (hno : drawOk P ops = false) (hok : drawOk2 P ops = true) (hT : othersAll2 P ops = T) (hsd : early P ops T = sd) (h : VE P X ops sd S T ops.toList e e S [] [] fun e' S' => Q .normal e' S') : Vc P X (.region id ops true) e S Q := by
  obtain ⟨n, r, h1, h2⟩ := VE_run _ _ _ _ _ _ _ _ h
  exact ⟨n, (.normal, r.1, r.2), by simp only [vrunC, vrunR, if_true, hno, Bool.false_eq_true, if_false, hok, hT, hsd, h1, Option.map_some], h2⟩
theorem Vc_seq {a b : Code} {e : Env} {S : VH} {Q : Ex → Env → VH → Prop} (h : Vc P X a e S fun x e' S' => match x with | .normal => Vc P X b e' S' Q | x => Q x e' S') : Vc P X (a.seq b) e S Q := by
  obtain ⟨n, r, h1, h2⟩ := h
  obtain ⟨x, e', S'⟩ := r
  cases x with
  | normal =>
    obtain ⟨m, r', h3, h4⟩ := h2
    refine ⟨max n m, r', ?_, h4⟩
    simp only [vrunC]
    rw [vrunC_mono (vrun_mono n (max n m) (Nat.le_max_left _ _)) (Nat.le_max_left _ _) _ _ _ _ h1]
    exact vrunC_mono (vrun_mono m (max n m) (Nat.le_max_right _ _)) (Nat.le_max_right _ _) _ _ _ _ h3
  | exit id => exact ⟨n, (.exit id, e', S'), by simp [vrunC, h1], h2⟩
  | ret => exact ⟨n, (.ret, e', S'), by simp [vrunC, h1], h2⟩
theorem Vc_cond {o : Operand} {a b : Code} {e : Env} {S : VH} {Q : Ex → Env → VH → Prop} {t : Bool} (ht : aeval e o = .bool t) (h1 : t = true → Vc P X a e S Q) (h2 : t = false → Vc P X b e S Q) : Vc P X (.cond o a b) e S Q := by
  cases t with
  | true => obtain ⟨n, r, h, hq⟩ := h1 rfl; exact ⟨n, r, by simp [vrunC, ht, h], hq⟩
  | false => obtain ⟨n, r, h, hq⟩ := h2 rfl; exact ⟨n, r, by simp [vrunC, ht, h], hq⟩
theorem Vc_block {id : Nat} {c : Code} {e : Env} {S : VH} {Q : Ex → Env → VH → Prop} (h : Vc P X c e S fun x e' S' => match x with | .exit j => if j = id then Q .normal e' S' else Q (.exit j) e' S' | x => Q x e' S') : Vc P X (.block id c) e S Q := by
  obtain ⟨n, ⟨x, e', S'⟩, h1, h2⟩ := h
  cases x with
  | normal => exact ⟨n, (.normal, e', S'), by simp [vrunC, h1], h2⟩
  | ret => exact ⟨n, (.ret, e', S'), by simp [vrunC, h1], h2⟩
  | exit j =>
    simp only at h2
    by_cases hj : j = id
    · rw [if_pos hj] at h2; exact ⟨n, (.normal, e', S'), by simp [vrunC, h1, hj], h2⟩
    · rw [if_neg hj] at h2; exact ⟨n, (.exit j, e', S'), by simp [vrunC, h1, hj], h2⟩
theorem Vc_loop {c : Code} {e : Env} {S : VH} {Q : Ex → Env → VH → Prop} (I : Nat → Env → VH → Prop) (m : Nat) (h0 : I m e S)
    (round : ∀ m e S, I m e S → Vc P X c e S fun x e' S' => match x with | .normal => ∃ k, k < m ∧ I k e' S' | x => Q x e' S') : Vc P X (.loop c) e S Q := by
  have key : ∀ m e S, I m e S → ∃ n r, viter (vrunC P (vrun P X n) n c) n e S = some r ∧ Q r.1 r.2.1 r.2.2 := by
    intro m
    induction m using Nat.strongRecOn with
    | ind m ih =>
      intro e S h
      obtain ⟨n, ⟨x, e', S'⟩, h1, h2⟩ := round m e S h
      cases x with
      | normal =>
        obtain ⟨k, hk, hI⟩ := h2
        obtain ⟨n', r, h3, h4⟩ := ih k hk e' S' hI
        refine ⟨max n n' + 1, r, ?_, h4⟩
        simp only [viter]
        rw [vrunC_mono (vrun_mono n _ (by omega)) (by omega) _ _ _ _ h1]
        exact viter_mono (fun e H r hr => vrunC_mono (vrun_mono n' _ (by omega)) (by omega) _ _ _ _ hr) n' _ (by omega) _ _ _ h3
      | exit id =>
        refine ⟨n + 1, (.exit id, e', S'), ?_, h2⟩
        simp only [viter]
        rw [vrunC_mono (vrun_mono n _ (by omega)) (by omega) _ _ _ _ h1]
        rfl
      | ret =>
        refine ⟨n + 1, (.ret, e', S'), ?_, h2⟩
        simp only [viter]
        rw [vrunC_mono (vrun_mono n _ (by omega)) (by omega) _ _ _ _ h1]
        rfl
  obtain ⟨n, r, h1, h2⟩ := key m e S h0
  exact ⟨n, r, by simp only [vrunC]; exact h1, h2⟩
theorem Vf_body {f : FuncId} {fn : Func} {c : Code} {args : List Value} {B : List Blk} {Q : Value → List (Nat × Blk) → Prop} (hX : X f = none) (hf : P.funcs[f]? = some fn) (hc : fn.body = some c) (hok : dstOk fn.ntmps c = true) (hl : args.length ≤ fn.ntmps)
    (h : Vc P X c args ⟨B, [], []⟩ fun x e S => With (vfinish P fn (x, e, S)) fun r => Q r.1 r.2) : Vf P X f args B Q := by
  obtain ⟨n, r, h1, h2⟩ := h
  cases hfin : vfinish P fn (r.1, r.2.1, r.2.2) with
  | none => rw [hfin] at h2; exact h2.elim
  | some q =>
    rw [hfin] at h2
    refine ⟨n + 1, q, ?_, h2⟩
    simp only [vrun, hX, hf, hc]
    rw [if_pos ⟨hok, hl⟩, h1]
    exact hfin
/-- What is given from outside. -/
theorem Vf_outer {f : FuncId} {g : List Value → List Blk → Option (Value × List (Nat × Blk))} {args : List Value} {B : List Blk} {Q : Value → List (Nat × Blk) → Prop} (hX : X f = some g) (h : With (g args B) fun r => Q r.1 r.2) : Vf P X f args B Q := by
  cases hg : g args B with
  | none => rw [hg] at h; exact h.elim
  | some r => rw [hg] at h; exact ⟨1, r, by simp only [vrun, hX]; exact hg, h⟩
/-- A law that tells true tells it in the plain heap, too. -/
theorem Vf_Df {Y : Outer} (hX : VXOk P Y X) {f : FuncId} {args cargs : List Value} {H : Hp} {b : Bool} (h : Vf P X f args [] fun v _ => v = .bool b) (ha : RdL ⟨[], fun _ => none, fun _ _ => True, H⟩ args cargs) : Df P Y f cargs H fun r _ => r = .bool b := by
  obtain ⟨n, ⟨v, ws⟩, h1, rfl⟩ := h
  refine (run_ok hX n f args [] (.bool b) ws h1 ⟨[], fun _ => none, fun _ _ => True, H⟩ cargs ?_ (fun _ => rfl) ha).mono ?_
  · exact { len := rfl, nodup := .nil, lt := fun b hb => (by cases hb), inj := fun k k' b h => (by cases h), sep := fun k b h => (by cases h), fr := fun _ _ => trivial, dom := fun i o b h => (by cases h), own := fun k b h => trivial, blk := fun i b h => (by simp at h) }
  · rintro cr H' ⟨R', _, _, h3⟩
    exact h3.inv_bool
end
end Go.Proofs.YtmdpggecelheoaaDoor.Abs
