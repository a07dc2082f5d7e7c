/- Every operation that leaves the heap as it is, in one theorem. -/
import Derived.Test.YtliemjbafgnnbaaDoorPA3
import Derived.Laws.Strings
import Derived.Laws.StructEq
import Derived.Lib.UnsafeStr
set_option maxHeartbeats 0
set_option linter.unnecessarySimpa false
set_option linter.unusedSimpArgs false
set_option linter.unusedVariables false
namespace Go.Proofs.YtliemjbafgnnbaaDoor.Abs
open Go Go.RowKit
section
variable {P : Program} {B : Nat} {w0 : Base} {w : World} {φ : Plan} {H : Hp}
theorem zagu {t : TypeId} {fs : Array Field} (h : afields P t = some fs) : P.underlying t = some (.struct fs) := by
 unfold afields at h
 split at h
 ·cases h; assumption
 ·cases h
theorem zal7 {t : TypeId} {i : Nat} {p : Nat × Nat} (h : place P t i = some p) : ∃ (fs : Array Field) (f : Field), P.underlying t = some (.struct fs) ∧ fs[i]? = some f ∧ f.offset = p.1 ∧ (szT P f.type).getD 0 = p.2 := by
 simp only [place, Option.bind_eq_some_iff, Option.map_eq_some_iff] at h
 obtain ⟨fs, hfs, f, hf, rfl⟩ := h
 exact ⟨fs, f, zagu hfs, hf, rfl, rfl⟩
theorem zaks {a : Addr} {f : Field} (h : (szT P f.type).getD 0 ≠ 0) (w : World) : (fieldPlace a f).run P w = .ok (a.add f.offset) w := by
 cases hs : szT P f.type with
 | none => rw [hs] at h; simp at h
 | some n =>
  rw [hs] at h
  have hn : n ≠ 0 := by simpa using h
  simp [fieldPlace, zab1 hs, hn]
theorem zah5 : ∀ (c c' : List Value) (l : List UInt8), bytesOfCells c = some l → VRs φ c c' → c' = c := by
 intro c c' l h hr
 refine hr.eq_of ?_
 clear hr
 induction c generalizing l with
 | nil => intro v hv; cases hv
 | cons x r ih =>
  intro v hv v' hr
  cases x with
  | int k n =>
   cases k <;> simp [bytesOfCells] at h
   obtain ⟨l', hl', _⟩ := h
   rcases List.mem_cons.1 hv with rfl | hv
   ·cases hr; rfl
   ·exact ih l' hl' v hv v' hr
  | _ => simp [bytesOfCells] at h
theorem zas5 (a : ByteArray) (b : UInt8) : (a.push b).data.toList = a.data.toList ++ [b] := by simp [ByteArray.push]
theorem zaht : ∀ (c : List Value) (l : List UInt8) (acc : ByteArray), bytesOfCells c = some l →
    (forIn (m := Sem) c acc (fun x s => match x with
     | .int .u8 n => pure (ForInStep.yield (s.push (UInt8.ofNat n.toNat)))
     | _ => (do stuck "bytesToString: byte expected"; pure (ForInStep.yield s)))).run P w = .ok ⟨(acc.data.toList ++ l).toArray⟩ w := by
 intro c
 induction c with
 | nil => intro l acc h; simp [bytesOfCells] at h; subst h; simp
 | cons x r ih =>
  intro l acc h
  cases x with
  | int k n =>
   cases k <;> simp [bytesOfCells] at h
   obtain ⟨l', hl', rfl⟩ := h
   have := ih l' (acc.push (UInt8.ofNat n.toNat)) hl'
   simp only [List.forIn_cons, Sem.run_bind, Sem.run_pure, Result.andThen_ok]
   rw [this, zas5]
   simp
  | _ => simp [bytesOfCells] at h
theorem zah6 {c : List Value} {l : List UInt8} (h : bytesOfCells c = some l) {a : Addr} {n cap : Nat} (hl : (loadCells a n).run P w = .ok c.toArray w) :
    (Conv.bytesToString (.slice (some a) n cap)).run P w = .ok (.string ⟨l.toArray⟩) w := by
 have := zaht (P := P) (w := w) c l ByteArray.empty h
 simp only [Conv.bytesToString, Sem.run_bind, hl, Result.andThen_ok, List.forIn_toArray]
 exact (congrArg (fun r : Result ByteArray => r.andThen fun a w' => Sem.run P (pure (Value.string a)) w') this).trans (by simp [ByteArray.empty, ByteArray.emptyWithCapacity]; rfl)
theorem zarz (hR : Rel B w0 φ H w) {src dst : TypeId} {x x' v : Value} (hx : VR φ x x') (h : aconv P src dst x H = some v) :
    ∃ v', (convert src dst x').run P w = .ok v' w ∧ VR φ v v' := by
 have gen : ∀ d d', P.underlying src = some d → P.underlying dst = some d' → (if flat 8 x then onlyFlat (pureRun P (convert src dst x)) else none) = some v → ∃ v', (convert src dst x').run P w = .ok v' w ∧ VR φ v v' := by
  intro d d' _ _ h
  split at h
  ·rename_i hf
   obtain ⟨h1, h2⟩ := zaf3 h
   have := zafv 8 _ _ hf hx
   subst this
   exact ⟨v, zae4 _ _ h1 w, zac5 8 v h2⟩
  ·cases h
 unfold aconv at h
 split at h
 ·rename_i e hs hd
  split at h
  ·rename_i he
   cases h
   cases hx with
   | slice0 => exact ⟨.string .empty, by simp [convert, run_underlying hs, run_underlying hd, run_underlying he, Conv.bytesToString], .string _⟩
  ·cases h
 ·rename_i e a n sz hs hd
  split at h
  ·rename_i he
   cases hc : cellsAt H a n with
   | none => rw [hc] at h; cases h
   | some c =>
    rw [hc] at h
    simp only [Option.bind_some, Option.map_eq_some_iff] at h
    obtain ⟨l, hl, rfl⟩ := h
    have fin : ∀ a' cap, (loadCells a' n).run P w = .ok c.toArray w → ∃ v', (convert src dst (.slice (some a') n cap)).run P w = .ok v' w ∧ VR φ (.string ⟨l.toArray⟩) v' := by
     intro a' cap hla
     refine ⟨.string ⟨l.toArray⟩, ?_, .string _⟩
     simp [convert, run_underlying hs, run_underlying hd, run_underlying he, zah6 hl hla]
    cases hx with
    | slice i off _ _ cap m hm h1 h2 =>
     obtain ⟨cs', g1, g2, g3, g4⟩ := zakp hR hc hm
     have e1 := zah5 (φ := φ) c cs' l hl g1
     have hll := run_loadCells_list (P := P) w _ cs' g4
     rw [g2, e1] at hll
     exact fin _ _ hll
    | sliceE _ b _ =>
     refine fin b 0 ?_
     have : c = [] := by
      simp only [cellsAt, if_true, Option.some.injEq] at hc
      exact hc.symm
     subst this
     simp [loadCells, loadCellsFrom]
  ·cases h
 ·cases h
 ·rename_i hs' hd' _ _
  exact gen _ _ (by assumption) (by assumption) h
 ·cases h
theorem zag6 {lo hi lo' hi' : Option Value} {n cap : Nat} {l h : Int} {sl : Bool}
    (hlo : match lo, lo' with | none, none => True | some v, some v' => VR φ v v' | _, _ => False) (hhi : match hi, hi' with | none, none => True | some v, some v' => VR φ v v' | _, _ => False)
    (e1 : abound hi n = some h) (e2 : abound lo 0 = some l) (b1 : 0 ≤ l) (b2 : l ≤ h) (b3 : h ≤ cap) : (Instr.sliceBounds sl n cap lo' hi' none).run P w = .ok (l.toNat, h.toNat, cap) w := by
 have b0 : (0 : Int) ≤ h := Int.le_trans b1 b2
 have b4 := Int.toNat_of_nonneg b0
 have f1 : (hi = none ∧ hi' = none ∧ h = n) ∨ ∃ k, hi' = some (.int k h) := by
  cases hi with
  | none => cases hi' with
   | none => simp [abound] at e1; exact .inl ⟨rfl, rfl, e1.symm⟩
   | some _ => exact hhi.elim
  | some r => cases hi' with
   | none => exact hhi.elim
   | some r' =>
    cases r <;> simp [abound] at e1
    cases hhi
    subst e1
    exact .inr ⟨_, rfl⟩
 have f2 : (lo' = none ∧ l = 0) ∨ ∃ k, lo' = some (.int k l) := by
  cases lo with
  | none => cases lo' with
   | none => simp [abound] at e2; exact .inl ⟨rfl, e2.symm⟩
   | some _ => exact hlo.elim
  | some r => cases lo' with
   | none => exact hlo.elim
   | some r' =>
    cases r <;> simp [abound] at e2
    cases hlo
    subst e2
    exact .inr ⟨_, rfl⟩
 rcases f1 with ⟨_, rfl, rfl⟩ | ⟨k, rfl⟩ <;> rcases f2 with ⟨rfl, rfl⟩ | ⟨k', rfl⟩ <;> simp [Instr.sliceBounds, Instr.sliceBound, asIntOf, asInt, b0, b1, b2, b3, b4]
theorem zaqs {t : TypeId} {x x' v : Value} {lo hi mx lo' hi' mx' : Option Value} (hx : VR φ x x')
    (hlo : match lo, lo' with | none, none => True | some v, some v' => VR φ v v' | _, _ => False) (hhi : match hi, hi' with | none, none => True | some v, some v' => VR φ v v' | _, _ => False)
    (hmx : mx = none → mx' = none) (h : aslice P t x lo hi mx = some v) :
    ∃ v', (Instr.sliceAt t x' lo' hi' mx').run P w = .ok v' w ∧ VR φ v v' := by
 unfold aslice at h
 split at h
 ·rename_i s hu
  have hm := hmx rfl
  subst hm
  cases hx
  simp only [Option.bind_eq_some_iff] at h
  obtain ⟨hv, eh, l, el, h⟩ := h
  split at h
  ·rename_i hb
   cases h
   have hsb := zag6 (P := P) (w := w) (sl := false) hlo hhi eh el hb.1 hb.2.1 hb.2.2
   exact ⟨_, by simp only [Instr.sliceAt, Sem.run_bind, run_underlying hu, Result.andThen_ok, Instr.slice, hsb, Option.isSome_none, Bool.false_eq_true, if_false, Sem.run_pure], .string _⟩
  ·cases h
 ·rename_i e hu
  have hm := hmx rfl
  subst hm
  simp only [Option.bind_eq_some_iff] at h
  obtain ⟨hv, eh, l, el, h⟩ := h
  split at h
  ·rename_i hb
   cases h
   cases hx
   have hsb := zag6 (P := P) (w := w) (sl := true) (n := 0) (cap := 0) hlo hhi eh el hb.1 hb.2.1 hb.2.2.1
   obtain ⟨sz, hs⟩ := Option.isSome_iff_exists.1 hb.2.2.2
   have z1 : l.toNat = 0 := by omega
   have z2 : hv.toNat = 0 := by omega
   rw [z1, z2] at hsb
   exact ⟨.slice none 0 0, by simp [Instr.sliceAt, run_underlying hu, Instr.slice, hsb, zab1 hs], .slice0⟩
  ·cases h
 ·rename_i e a n sz hu
  have hm := hmx rfl
  subst hm
  simp only [Option.bind_eq_some_iff] at h
  obtain ⟨hv, eh, l, el, h⟩ := h
  split at h
  ·rename_i hb
   cases h
   obtain ⟨hs, hsp, b1, b2, b3⟩ := hb
   cases hx with
   | slice i off _ _ cap m hm h1 h2 =>
    have hsb := zag6 (P := P) (w := w) (sl := true) (n := n) (cap := cap) hlo hhi eh el b1 b2 (by omega)
    have hrun : (Instr.sliceAt t (.slice (some ⟨m.blk, m.base + off, none⟩) n cap) lo' hi' none).run P w = .ok (.slice (some (if cap = l.toNat then ⟨m.blk, m.base + off, none⟩ else (⟨m.blk, m.base + off, none⟩ : Addr).add (l.toNat * sz))) (hv.toNat - l.toNat) (cap - l.toNat)) w := by
     simp [Instr.sliceAt, run_underlying hu, Instr.slice, hsb, zab1 hs]
     split <;> rfl
    refine ⟨_, hrun, ?_⟩
    have e3 : (hv - l).toNat = hv.toNat - l.toNat := by omega
    rw [e3]
    split
    ·rename_i hcap
     have z1 : hv.toNat - l.toNat = 0 := by omega
     have z2 : cap - l.toNat = 0 := by omega
     rw [z1, z2]
     exact .sliceE _ _ _
    ·rw [add_at]
     have := VR.slice (φ := φ) i (off + l.toNat * sz) (hv.toNat - l.toNat) sz (cap - l.toNat) m hm (by omega) (by
      rw [← h2]
      have : cap * sz = l.toNat * sz + (cap - l.toNat) * sz := by rw [← Nat.add_mul]; congr 1; omega
      omega)
     rwa [← Nat.add_assoc] at this
   | sliceE _ b _ =>
    have l0 : l = 0 := by omega
    have h0 : hv = 0 := by omega
    subst l0 h0
    have hsb := zag6 (P := P) (w := w) (sl := true) (n := 0) (cap := 0) hlo hhi eh el (by omega) (by omega) (by omega)
    exact ⟨.slice (some b) 0 0, by simp [Instr.sliceAt, run_underlying hu, Instr.slice, hsb, zab1 hs], .sliceE _ _ _⟩
  ·cases h
 ·cases h
theorem zafu (t : TypeId) (x y : Value) : Op.equal t x y = Op.equalIn (9999 + 1) t x y := rfl
theorem zaxd {t e : TypeId} (hu : P.underlying t = some (.pointer e)) (a : Addr) : (Op.equal t (.pointer (some a)) (.pointer none)).run P w = .ok false w := by
 rw [zafu]; generalize 9999 = d; simp [Op.equalIn, run_underlying hu]
theorem zaxc {t k e : TypeId} (hu : P.underlying t = some (.map k e)) (a : Nat) : (Op.equal t (.map (some a)) (.map none)).run P w = .ok false w := by
 rw [zafu]; generalize 9999 = d; simp [Op.equalIn, run_underlying hu]
theorem zaor {t u : TypeId} {ms : Array (String × TypeId)} {x : Value} (hu : P.underlying t = some (.interface ms)) : (Op.equal t (.iface u x) .nilIface).run P w = .ok false w := by
 rw [zafu]; generalize 9999 = d; simp [Op.equalIn, run_underlying hu]
theorem zaos {t e : TypeId} (hu : P.underlying t = some (.slice e)) (a : Addr) (n c : Nat) : (Op.equal t (.slice (some a) n c) (.slice none 0 0)).run P w = .ok false w := by
 rw [zafu]; generalize 9999 = d; simp [Op.equalIn, run_underlying hu]
theorem VR.bool_inv {b : Bool} {v : Value} (h : VR φ (.bool b) v) : v = .bool b := by cases h; rfl
theorem zale {t : TypeId} {cs : Array Value} {off : Nat} {v : Value} (h : apart P t cs off = some v) : (part t cs off).run P w = .ok v w := by
 unfold apart at h
 split at h
 ·cases h
 ·rename_i d hd
  split at h
  ·rename_i hagg
   cases hs : szT P t with
   | none => rw [hs] at h; cases h
   | some n =>
    rw [hs] at h
    simp only [Option.bind_some] at h
    split at h
    ·cases h
     simp [part, zage hd, hagg, zab1 hs]
    ·cases h
  ·rename_i hagg
   have hagg' : isAggT P t = false := by simpa using hagg
   simp [part, zage hd, hagg', h]
theorem zawx : ∀ (d : Nat) (t : TypeId) (x y : Value) (b : Bool), aeq P d t x y = some b → ∀ m, d ≤ m → ∀ w : World, (Op.equalIn m t x y).run P w = .ok b w := by
 intro d
 induction d with
 | zero => intro t x y b h; simp [aeq] at h
 | succ d ih =>
  intro t x y b h m hm w
  obtain ⟨m, rfl⟩ : ∃ q, m = q + 1 := ⟨m - 1, by omega⟩
  simp only [aeq] at h
  split at h
  ·rename_i hu; cases h; simp [Op.equalIn, run_underlying hu]
  ·rename_i hu
   split at h
   ·rename_i hk; cases h; simp [Op.equalIn, run_underlying hu, hk]
   ·cases h
  ·rename_i hu; cases h; simp [Op.equalIn, run_underlying hu, beq_toListBytes]
  ·rename_i fs xs ys hu
   split at h
   ·cases h
   ·rename_i hp
    have hf : P.fieldsOf t = fs := by simp [Program.fieldsOf, hu]
    rw [run_equalIn_struct w m t xs ys (by rw [hf]; exact hu) (by simpa using hp), hf]
    generalize fs.toList = l at h
    clear hu hf
    induction l generalizing w with
    | nil => simp only [aeqF] at h; cases h; simp [Op.eqFields]
    | cons f l ihl =>
     simp only [aeqF] at h
     split at h
     ·rename_i hn
      simp only [Op.eqFields, hn, ne_eq, not_true_eq_false, if_false]
      exact ihl w h
     ·rename_i hn
      simp only [Option.bind_eq_some_iff] at h
      obtain ⟨a, ha, c, hc, r, hr, h⟩ := h
      simp only [Op.eqFields, ne_eq, hn, not_false_eq_true, if_true, Sem.run_bind, zale (P := P) (w := w) ha, zale (P := P) (w := w) hc, Result.andThen_ok, ih _ _ _ _ hr m (by omega) w]
      cases r with
      | true => simp only [if_true] at h; simpa using ihl w h
      | false => simp only [Bool.false_eq_true, if_false] at h; cases h; simp
  ·cases h
theorem zawy {op : BinOp} {t : TypeId} {x y : Operand} {a b : Value} {r : Bool} (ha : aggVal a = true) (hb : aggVal b = true) (hg : P.eqGuardType P.depth t = false) (h : aeq P 20 t a b = some r) :
    (op = .eql → (do eqGuard op t x y a b; binOp op t a b : Sem Value).run P w = .ok (.bool r) w) ∧ (op = .neq → (do eqGuard op t x y a b; binOp op t a b : Sem Value).run P w = .ok (.bool (!r)) w) := by
 have he := zawx 20 t a b r h 10000 (by omega) w
 have heq : (Op.equal t a b).run P w = .ok r w := he
 have hgd : (eqGuard op t x y a b).run P w = .ok () w := by
  cases a <;> cases b <;> simp_all [aggVal] <;> cases op <;> simp [eqGuard, run_program, hg]
 have hop : ∀ o, o = BinOp.eql ∨ o = BinOp.neq → binOp o t a b = if o = .eql then (do pure (.bool (← Op.equal t a b))) else (do pure (.bool (!(← Op.equal t a b)))) := by
  intro o ho
  cases a <;> cases b <;> simp_all [aggVal] <;> rcases ho with rfl | rfl <;> rfl
 constructor
 ·rintro rfl
  rw [hop _ (.inl rfl)]
  simp only [Sem.run_bind, hgd, Result.andThen_ok, if_true, heq, Sem.run_pure]
 ·rintro rfl
  rw [hop _ (.inr rfl)]
  simp only [Sem.run_bind, hgd, Result.andThen_ok, heq, Sem.run_pure, reduceCtorEq, if_false]
theorem zauw {op : BinOp} {t : TypeId} {x y : Operand} {a b a' b' v : Value} (ha : VR φ a a') (hb : VR φ b b') (h : abin P op t x y a b = some v) :
    ∃ v', (do eqGuard op t x y a' b'; binOp op t a' b' : Sem Value).run P w = .ok v' w ∧ VR φ v v' := by
 unfold abin at h
 split at h
 ·rename_i hf
  simp only [Bool.and_eq_true] at hf
  obtain ⟨⟨⟨i1, i2⟩, f1⟩, f2⟩ := hf
  have e1 := zafv 8 _ _ f1 ha
  have e2 := zafv 8 _ _ f2 hb
  subst e1 e2
  split at h
  ·split at h
   ·cases h
   ·rename_i hg
    simp only [Option.map_eq_some_iff] at h
    obtain ⟨r, hr, rfl⟩ := h
    exact ⟨_, (zawy (P := P) (w := w) (x := x) (y := y) i1 i2 (by simpa using hg) hr).1 rfl, .bool _⟩
  ·split at h
   ·cases h
   ·rename_i hg
    simp only [Option.map_eq_some_iff] at h
    obtain ⟨r, hr, rfl⟩ := h
    exact ⟨_, (zawy (P := P) (w := w) (x := x) (y := y) i1 i2 (by simpa using hg) hr).2 rfl, .bool _⟩
  ·cases h
 split at h
 ·rename_i hf
  simp only [Bool.and_eq_true] at hf
  have e1 := zafv 8 _ _ hf.1 ha
  have e2 := zafv 8 _ _ hf.2 hb
  subst e1 e2
  obtain ⟨h1, h2⟩ := zaf3 h
  exact ⟨v, zae4 _ _ h1 w, zac5 8 v h2⟩
 ·split at h
  ·split at h
   ·rename_i hu
    cases h
    cases ha; cases hb
    exact ⟨_, by simp [eqGuard, binOp, zaxd hu], .bool _⟩
   ·cases h
  ·split at h
   ·rename_i hu
    cases h
    cases ha; cases hb
    exact ⟨_, by simp [eqGuard, binOp, zaxd hu], .bool _⟩
   ·cases h
  ·split at h
   ·rename_i hu
    cases h
    cases ha <;> cases hb <;> exact ⟨_, by simp [eqGuard, binOp, zaos hu], .bool _⟩
   ·cases h
  ·split at h
   ·rename_i hu
    cases h
    cases ha <;> cases hb <;> exact ⟨_, by simp [eqGuard, binOp, zaos hu], .bool _⟩
   ·cases h
  ·split at h
   ·rename_i hu
    cases h
    cases ha; cases hb
    exact ⟨_, by simp [eqGuard, binOp, zaxc hu], .bool _⟩
   ·cases h
  ·split at h
   ·rename_i hu
    cases h
    cases ha; cases hb
    exact ⟨_, by simp [eqGuard, binOp, zaxc hu], .bool _⟩
   ·cases h
  ·split at h
   ·rename_i hu
    cases h
    cases ha; cases hb
    exact ⟨_, by simp [eqGuard, binOp, zaor hu], .bool _⟩
   ·cases h
  ·split at h
   ·rename_i hu
    cases h
    cases ha; cases hb
    exact ⟨_, by simp [eqGuard, binOp, zaor hu], .bool _⟩
   ·cases h
  ·cases h
theorem zajl {t : TypeId} {x i x' i' v : Value} (hx : VR φ x x') (hi : VR φ i i') (h : aindexAddr P t x i = some v) :
    ∃ v', (Instr.indexAt t x' i').run P w = .ok v' w ∧ VR φ v v' := by
 unfold aindexAddr at h
 split at h
 ·rename_i e a n sz k j hu
  split at h
  ·rename_i hc
   split at h
   ·rename_i hb
    cases h
    cases hi
    cases hx with
    | slice i off _ _ cap m hm h1 h2 =>
     refine ⟨.pointer (some ⟨m.blk, m.base + (off + j.toNat * sz), none⟩), ?_, .ptr _ _ _ hm⟩
     simp [Instr.indexAt, asIntOf, run_underlying hu, hb.1, hb.2, zab1 hc.1, add_at, Nat.add_assoc]
    | sliceE _ b _ => exact absurd hb (by omega)
   ·cases h
  ·cases h
 ·rename_i n e a k j hu
  cases hs : szT P e with
  | none => rw [hs] at h; cases h
  | some sz =>
   rw [hs] at h
   simp only [Option.bind_some] at h
   split at h
   ·split at h
    ·rename_i hb
     cases h
     cases hi
     cases hx with
     | ptr i off m hm =>
      refine ⟨.pointer (some ⟨m.blk, m.base + (off + j.toNat * sz), none⟩), ?_, .ptr _ _ _ hm⟩
      simp [Instr.indexAt, asIntOf, run_underlying hu, Instr.sureAddr, hb.1, hb.2, zab1 hs, add_at, Nat.add_assoc]
    ·cases h
   ·cases h
 ·cases h
theorem zap7 {t : TypeId} {x i x' i' v : Value} (hx : VR φ x x') (hi : VR φ i i') (h : aindex P t x i = some v) :
    ∃ v', (Instr.index t x' i').run P w = .ok v' w ∧ VR φ v v' := by
 unfold aindex at h
 split at h
 ·rename_i s k j hu
  cases hx; cases hi
  split at h
  ·rename_i hj
   cases hg : s[j.toNat]? with
   | none => rw [hg] at h; cases h
   | some b =>
    rw [hg] at h
    cases h
    exact ⟨_, by simp [Instr.index, asIntOf, run_underlying hu, hj, hg], .int _ _⟩
  ·cases h
 ·rename_i n e cs k j hu
  cases hi
  split at h
  ·rename_i hj
   cases hs : szT P e with
   | none => rw [hs] at h; cases h
   | some sz =>
    rw [hs] at h
    simp only [Option.bind_some] at h
    cases hx with
    | agg _ cs' h1 h0 h2 =>
     obtain ⟨v', g1, g2⟩ := zal6 (P := P) (w := w) (.of_array h1 h2) h0 h
     exact ⟨v', by simp [Instr.index, asIntOf, run_underlying hu, hj, zab1 hs, g1], g2⟩
  ·cases h
 ·cases h
theorem EntsRel.length {φ : Plan} : ∀ {es : List (Value × Value)} {l : List MapEntry}, EntsRel φ es l → es.length = l.length
 | [], [], _ => rfl
 | _ :: _, _ :: _, ⟨_, _, c⟩ => by simp [EntsRel.length c]
 | [], _ :: _, k => k.elim
 | _ :: _, [], k => k.elim
theorem zado (a b : Value) : vbeq a b = true ↔ a = b := ⟨zams a b, fun h => h ▸ zaeq a⟩
theorem EntsRel.key {φ : Plan} : ∀ {es : List (Value × Value)} {l : List MapEntry}, EntsRel φ es l → ∀ y ∈ l, ∃ x ∈ es, y.key = x.1 ∧ VR φ x.2 y.val
 | [], [], _, y, h => by cases h
 | x :: es, z :: l, ⟨a, b, c⟩, y, h => by
  rcases List.mem_cons.1 h with rfl | h
  ·exact ⟨x, List.mem_cons_self, a, b⟩
  ·obtain ⟨u, hu, e⟩ := EntsRel.key c y h
   exact ⟨u, List.mem_cons_of_mem _ hu, e⟩
 | [], _ :: _, k, _, _ => k.elim
 | _ :: _, [], k, _, _ => k.elim
theorem zaxb {k : Value} : ∀ {es : List (Value × Value)}, (es.map (·.1)).Nodup → ∀ x ∈ es, x.1 = k → mget k es = some x.2
 | [], _, x, h, _ => by cases h
 | y :: es, hn, x, h, e => by
  rw [List.map_cons, List.nodup_cons] at hn
  unfold mget
  rw [List.find?_cons]
  rcases List.mem_cons.1 h with rfl | h
  ·rw [show vbeq k x.1 = true from (zado _ _).2 e.symm]; rfl
  ·have hne : vbeq k y.1 = false := by
    cases hb : vbeq k y.1 with
    | false => rfl
    | true =>
     have := (zado _ _).1 hb
     exact absurd (List.mem_map.2 ⟨x, h, by rw [e, this]⟩) hn.1
   rw [hne]
   exact zaxb hn.2 x h e
theorem zavt {k : Value} {es : List (Value × Value)} (h : ∀ x ∈ es, x.1 ≠ k) : mget k es = none := by
 unfold mget
 have : es.find? (fun e => vbeq k e.1) = none := by
  rw [List.find?_eq_none]
  intro x hx hb
  exact h x hx ((zado _ _).1 hb).symm
 rw [this]; rfl
theorem zai6 {d : TypeDesc} {a b : Value} {r : Bool} (h : Instr.sameNow d a b = some r) : r = vbeq a b := by
 unfold Instr.sameNow at h
 split at h
 ·split at h
  ·rename_i hk; subst hk; cases h; simp [vbeq]; rw [Bool.eq_iff_iff]; simp
  ·cases h
 ·rename_i a b
  cases h
  rw [Bool.eq_iff_iff, zado, beq_toListBytes, ByteArray.toList_eq, ByteArray.toList_eq]
  constructor
  ·intro h
   have h2 : a.data.toList = b.data.toList := by simpa using h
   have e1 : a = ⟨(a.data.toList).toArray⟩ := rfl
   rw [e1, h2]
  ·intro h; cases h; simp
 ·cases h; simp [vbeq]
 ·cases h
theorem zaj7 {d : TypeDesc} {k : Value} : ∀ (l : List MapEntry) (i : Nat) (r : Option (Nat × Value)), Instr.findNow d k l i = some r → (r = none ∧ ∀ y ∈ l, vbeq k y.key = false) ∨ ∃ j y, r = some (i + j, y.val) ∧ l[j]? = some y ∧ vbeq k y.key = true
 | [], i, r, h => by simp only [Instr.findNow] at h; cases h; exact .inl ⟨rfl, by simp⟩
 | e :: l, i, r, h => by
  simp only [Instr.findNow] at h
  split at h
  ·rename_i hs; cases h; exact .inr ⟨0, e, rfl, rfl, (zai6 hs).symm⟩
  ·rename_i hs
   rcases zaj7 l (i + 1) r h with ⟨h1, h2⟩ | ⟨j, y, h1, h2, h3⟩
   ·exact .inl ⟨h1, fun y hy => by
     rcases List.mem_cons.1 hy with rfl | hy
     ·exact (zai6 hs).symm
     ·exact h2 y hy⟩
   ·exact .inr ⟨j + 1, y, by rw [h1]; congr 2; omega, h2, h3⟩
  ·cases h
theorem zahi {kt : TypeId} {k : Value} {w : World} : ∀ (l : List MapEntry) (i : Nat), (∀ y ∈ l, (Op.equal kt k y.key).run P w = .ok (vbeq k y.key) w) → ∃ r, (Instr.findAsking kt k l i).run P w = .ok r w ∧ ((r = none ∧ ∀ y ∈ l, vbeq k y.key = false) ∨ ∃ j y, r = some (i + j, y.val) ∧ l[j]? = some y ∧ vbeq k y.key = true)
 | [], i, _ => ⟨none, by simp [Instr.findAsking], .inl ⟨rfl, by simp⟩⟩
 | e :: l, i, h => by
  have he := h e List.mem_cons_self
  cases hb : vbeq k e.key with
  | true => exact ⟨some (i, e.val), by simp [Instr.findAsking, he, hb], .inr ⟨0, e, rfl, rfl, hb⟩⟩
  | false =>
   obtain ⟨r, h1, h2⟩ := zahi l (i + 1) fun y hy => h y (List.mem_cons_of_mem _ hy)
   refine ⟨r, by simp [Instr.findAsking, he, hb, h1], ?_⟩
   rcases h2 with ⟨h2, h3⟩ | ⟨j, y, h2, h3, h4⟩
   ·exact .inl ⟨h2, fun y hy => by
     rcases List.mem_cons.1 hy with rfl | hy
     ·exact hb
     ·exact h3 y hy⟩
   ·exact .inr ⟨j + 1, y, by rw [h2]; congr 2; omega, h3, h4⟩
theorem za0p {kt : TypeId} {d : TypeDesc} {k : Value} {w : World} (hd : P.underlying kt = some d) (l : List MapEntry) (h : ∀ y ∈ l, (Op.equal kt k y.key).run P w = .ok (vbeq k y.key) w) :
    ∃ r, (Instr.findKey kt k l).run P w = .ok r w ∧ ((r = none ∧ ∀ y ∈ l, vbeq k y.key = false) ∨ ∃ j y, r = some (j, y.val) ∧ l[j]? = some y ∧ vbeq k y.key = true) := by
 cases hf : Instr.findNow d k l 0 with
 | some r =>
  refine ⟨r, by simp [Instr.findKey, run_underlying hd, hf], ?_⟩
  have := zaj7 l 0 r hf
  simpa using this
 | none =>
  obtain ⟨r, h1, h2⟩ := zahi (P := P) (kt := kt) (k := k) (w := w) l 0 h
  refine ⟨r, by simp [Instr.findKey, run_underlying hd, hf, h1], ?_⟩
  simpa using h2
theorem zafx {kt : TypeId} {k : Value} (h : keyOk P kt k = true) : flat 8 k = true ∧ isTup k = false ∧ Instr.sameBits 10000 k k = true ∧ ∀ (b : Bool) (w : World), (Instr.checkKey b 10000 kt k).run P w = .ok () w := by
 simp only [keyOk, Bool.and_eq_true, Option.isSome_iff_exists] at h
 obtain ⟨⟨⟨⟨h1, h2⟩, h5⟩, u, h3⟩, v, h4⟩ := h
 refine ⟨h1, by simpa using h2, h5, fun b w => ?_⟩
 cases b
 ·exact zae4 _ _ h4 w
 ·exact zae4 _ _ h3 w
theorem zaeg {kt : TypeId} {k : Value} {es : List (Value × Value)} (h : keysOk P kt k es = true) : keyOk P kt k = true ∧ ∀ x ∈ es, ∀ w : World, (Op.equal kt k x.1).run P w = .ok (vbeq k x.1) w := by
 simp only [keysOk, Bool.and_eq_true, List.all_eq_true] at h
 refine ⟨h.1, fun x hx w => ?_⟩
 have := h.2 x hx
 split at this
 ·rename_i r hr
  have e : r = vbeq k x.1 := by simpa using this
  rw [← e]
  exact zawx 20 kt k x.1 r hr 10000 (by omega) w
 ·cases this
theorem zagc (hR : Rel B w0 φ H w) {r : Nat} {m : Emb} {es : List (Value × Value)} (hm : φ r = some m) (hg : H.get r = .map es) :
    ∃ es' clock, B ≤ m.blk ∧ w.heap[m.blk]? = some (.map es' clock) ∧ MapRel φ es es' clock := by
 have hb := hR.blkOf hm
 rw [hg] at hb
 obtain ⟨m', es', clock, hp, hB, hh, hr⟩ := hb
 have : m' = m := by rw [hp] at hm; exact Option.some.inj hm
 subst this
 exact ⟨es', clock, hB, hh, hr⟩
theorem zam8 {kt : TypeId} {d : TypeDesc} {k : Value} {es : List (Value × Value)} {es' : Array MapEntry} {clock : Nat} (hd : P.underlying kt = some d) (hr : MapRel φ es es' clock) (hk : keysOk P kt k es = true) (w : World) :
    ∃ r, (Instr.findKey kt k es'.toList).run P w = .ok r w ∧ ((r = none ∧ mget k es = none ∧ ∀ x ∈ es, x.1 ≠ k) ∨ ∃ j y x, r = some (j, y.val) ∧ es'[j]? = some y ∧ y.key = k ∧ x ∈ es ∧ x.1 = k ∧ mget k es = some x.2 ∧ VR φ x.2 y.val) := by
 obtain ⟨l, hp, he⟩ := hr.ents
 obtain ⟨hk1, hk2⟩ := zaeg hk
 obtain ⟨r, h1, h2⟩ := za0p (P := P) (k := k) (w := w) hd es'.toList fun y hy => by
  obtain ⟨x, hx, e, _⟩ := he.key y (hp.mem_iff.2 hy)
  rw [e]; exact hk2 x hx w
 refine ⟨r, h1, ?_⟩
 rcases h2 with ⟨h2, h3⟩ | ⟨j, y, h2, h3, h4⟩
 ·have hne : ∀ x ∈ es, x.1 ≠ k := by
   have key : ∀ (es : List (Value × Value)) (l : List MapEntry), EntsRel φ es l → (∀ y ∈ l, vbeq k y.key = false) → ∀ x ∈ es, x.1 ≠ k := by
    intro es
    induction es with
    | nil => intro l _ _ x hx; cases hx
    | cons z es ih =>
     intro l he hl x hx
     cases l with
     | nil => exact he.elim
     | cons y l =>
      rcases List.mem_cons.1 hx with rfl | hx
      ·intro e
       have := hl y List.mem_cons_self
       rw [he.1, e, zaeq] at this; cases this
      ·exact ih l he.2.2 (fun u hu => hl u (List.mem_cons_of_mem _ hu)) x hx
   exact key es l he fun y hy => h3 y (hp.mem_iff.1 hy)
  exact .inl ⟨h2, zavt hne, hne⟩
 ·have hy : y ∈ es'.toList := List.mem_of_getElem? h3
  obtain ⟨x, hx, e, hv⟩ := he.key y (hp.mem_iff.2 hy)
  have ek : y.key = k := ((zado _ _).1 h4).symm
  exact .inr ⟨j, y, x, h2, by simpa using h3, ek, hx, by rw [← e, ek], zaxb hr.keys x hx (by rw [← e, ek]), hv⟩
theorem zair {t : TypeId} {z : Value} (h : flatZero P t = some z) (w : World) : (zeroValue t).run P w = .ok z w ∧ flat 8 z = true := by
 simp only [flatZero, zeroT, Option.bind_eq_some_iff] at h
 obtain ⟨z', ⟨inf, hinf, hz⟩, h⟩ := h
 split at h
 ·rename_i hf
  cases h
  exact ⟨by simp [zeroValue, run_typeInfo (P := P) (w := w) hinf, hz], hf⟩
 ·cases h
theorem zanc (hR : Rel B w0 φ H w) {t : TypeId} {x k x' k' v : Value} {ok : Bool} (hx : VR φ x x') (hk : VR φ k k') (h : alookup P t x k ok H = some v) :
    ∃ v', (Instr.lookup t x' k' ok).run P w = .ok v' w ∧ VR φ v v' := by
 unfold alookup at h
 simp only [Option.bind_eq_some_iff] at h
 obtain ⟨es, hes, h⟩ := h
 unfold mlook at h
 split at h
 ·rename_i kt et hu
  split at h
  ·rename_i hkk
   obtain ⟨hk1, _⟩ := zaeg hkk
   obtain ⟨hf, _, _, hchk⟩ := zafx hk1
   have ek := zafv 8 _ _ hf hk
   subst ek
   simp only [Option.map_eq_some_iff] at h
   obtain ⟨u, hu2, rfl⟩ := h
   have fin : ∀ u u' : Value, ∀ b : Bool, VR φ u u' → VR φ (if ok then .tuple #[u, .bool b] else u) (if ok then .tuple #[u', .bool b] else u') := by
    intro u u' b hv
    cases ok
    ·exact hv
    ·exact .tuple_of (.cons hv (.cons (.bool b) (.nil φ)))
   have hdk : ∃ d, P.underlying kt = some d := by
    cases hd : P.underlying kt with
    | some d => exact ⟨d, rfl⟩
    | none =>
     have hno : ∀ n : Nat, (Instr.checkKey true (n + 1) kt k').run P w ≠ .ok () w := fun n => by simp [Instr.checkKey, underlying, hd]
     exact absurd (hchk true w) (hno 9999)
   obtain ⟨d, hd⟩ := hdk
   unfold aentries at hes
   split at hes
   ·cases hes
    cases hx
    have e0 : mget k' [] = none := rfl
    rw [e0] at hu2 ⊢
    obtain ⟨hz, hzf⟩ := zair (P := P) hu2 w
    refine ⟨_, ?_, fin u u false (zac5 8 u hzf)⟩
    have hfk : (Instr.findKey kt k' []).run P w = .ok none w := by simp [Instr.findKey, Instr.findNow, run_underlying hd]
    simp [Instr.lookup, run_underlying hu, hchk, hfk, hz]
   ·rename_i r
    split at hes
    ·rename_i es0 hg
     cases hes
     cases hx with
     | map i m hm =>
      obtain ⟨es', clock, _, hh, hr⟩ := zagc hR hm hg
      obtain ⟨r0, h1, h2⟩ := zam8 (P := P) hd hr hkk w
      have hgo : (getObj m.blk).run P w = .ok (.map es' clock) w := by simp [getObj, Sem.run, hh]
      rcases h2 with ⟨rfl, h3, _⟩ | ⟨j, y, x, rfl, _, _, _, _, h3, hv⟩
      ·rw [h3] at hu2 ⊢
       obtain ⟨hz, hzf⟩ := zair (P := P) hu2 w
       refine ⟨_, ?_, fin u u false (zac5 8 u hzf)⟩
       simp [Instr.lookup, run_underlying hu, hgo, hchk, h1, hz]
      ·rw [h3] at hu2 ⊢
       cases hu2
       refine ⟨_, ?_, fin _ y.val true hv⟩
       simp [Instr.lookup, run_underlying hu, hgo, hchk, h1]
    ·cases hes
   ·cases hes
  ·cases h
 ·cases h
theorem zavq (hR : Rel B w0 φ H w) {t ty : TypeId} {x x' v : Value} (hx : VR φ x x') (h : alen P t x H = some v) :
    ∃ v', (Builtin.len_ #[t] ty #[x']).run P w = .ok v' w ∧ VR φ v v' := by
 unfold alen at h
 split at h
 ·rename_i s hu
  cases h; cases hx
  exact ⟨_, by simp [Builtin.len_, run_underlying hu, goInt], .int _ _⟩
 ·rename_i e a n c hu
  cases h
  cases hx <;> exact ⟨_, by simp [Builtin.len_, run_underlying hu, goInt], .int _ _⟩
 ·rename_i n e hu
  cases h
  exact ⟨_, by simp [Builtin.len_, run_underlying hu, goInt], .int _ _⟩
 ·rename_i k e hu
  cases h; cases hx
  exact ⟨_, by simp [Builtin.len_, run_underlying hu, goInt], .int _ _⟩
 ·rename_i k e r hu
  cases hg : H.get r with
  | map es =>
   rw [hg] at h
   cases h
   cases hx with
   | map i m hm =>
    have hb := hR.blkOf hm
    rw [hg] at hb
    obtain ⟨m', es', clock, hp, _, hh, hr⟩ := hb
    have : m' = m := by rw [hp] at hm; exact Option.some.inj hm
    subst this
    obtain ⟨l, hl1, hl2⟩ := hr.ents
    refine ⟨.int .i64 es.length, ?_, .int _ _⟩
    have hsz : es'.size = es.length := by rw [hl2.length, hl1.length_eq]; simp
    simp [Builtin.len_, run_underlying hu, goInt, getObj, Sem.run, hh, hsz]
  | _ => rw [hg] at h; cases h
 ·cases h
theorem zakl {α : Type} {x : Array α} {a : α} (h : x.toList = [a]) : x = #[a] := by cases x; simp_all
theorem zae9 {α : Type} {x : Array α} {a b : α} (h : x.toList = [a, b]) : x = #[a, b] := by cases x; simp_all
theorem VR.int_inv {φ : Plan} {k : IntKind} {n : Int} {v : Value} (h : VR φ (.int k n) v) : v = .int k n := by cases h; rfl
theorem zavr (hR : Rel B w0 φ H w) {ρ ρ' : Operand → Value} (hρ : ∀ x, VR φ (ρ x) (ρ' x)) {o : Oper} {v : Value} (h : lop P ρ H o.op = some v) :
    ∃ v', (execOp ρ' o).run P w = .ok (.value v') w ∧ VR φ v v' := by
 have wrap : ∀ {s : Sem Value}, (∃ v', s.run P w = .ok v' w ∧ VR φ v v') → ∃ v', (do pure (Next.value (← s)) : Sem Next).run P w = .ok (.value v') w ∧ VR φ v v' := by
  intro s ⟨v', h1, h2⟩
  exact ⟨v', by simp [h1], h2⟩
 obtain ⟨dst, op, type, pos, after, guard⟩ := o
 simp only at h
 cases op with
 | move x => simp only [lop] at h; cases h; exact ⟨ρ' x, rfl, hρ x⟩
 | assign x => simp only [lop] at h; cases h; exact ⟨ρ' x, rfl, hρ x⟩
 | pick c a b =>
  simp only [lop] at h
  have hc := hρ c
  split at h
  ·rename_i t ht
   rw [ht] at hc
   cases h
   have hcb := hc.bool_inv
   refine ⟨if t then ρ' a else ρ' b, ?_, ?_⟩
   ·show (do pure (Next.value (if ← asBool (ρ' c) then ρ' a else ρ' b)) : Sem Next).run P w = _
    rw [hcb]
    simp [asBool]
   ·cases t
    ·exact hρ b
    ·exact hρ a
  ·cases h
 | build t parts =>
  simp only [lop] at h
  simp only [Option.bind_eq_some_iff] at h
  obtain ⟨z, hz, h⟩ := h
  split at h
  ·rename_i hc
   simp only [Bool.and_eq_true, List.all_eq_true] at hc
   obtain ⟨⟨hsz, hfl⟩, htup⟩ := hc
   simp only [Option.map_eq_some_iff] at h
   obtain ⟨cs, hfill, rfl⟩ := h
   unfold sized at hsz
   split at hsz
   ·rename_i fs hfs
    have hu := zagu hfs
    simp only [zeroT, Option.bind_eq_some_iff] at hz
    obtain ⟨inf, hinf, hz⟩ := hz
    have hzr := zac5 (φ := φ) 8 z hfl
    have hzt : isTup z = false := by cases z <;> simp_all [flat, isTup]
    have hzc := hzr.cells (by intro e; subst e; simp [isTup] at hzt)
    have hz1 := hzr.one hzt
    have hfill' := zag4 _ _ _ hfill
    have hpl0 : place P t = fun i => (fs[i]?).map fun f => (f.offset, (szT P f.type).getD 0) := by
     funext i; simp [place, hfs]
    rw [hpl0, Array.toArray_toList] at hfill'
    refine wrap ?_
    obtain ⟨cs', g1, g2, g3⟩ := zaiq (φ := φ) (parts.toList.map fun p => (p.1, ρ p.2)) (parts.toList.map fun p => (p.1, ρ' p.2)) z.cells z.cells cs.toArray (by simp) (fun i x y hx hy => by
     simp only [List.getElem?_map, Option.map_eq_some_iff] at hx hy
     obtain ⟨p, hp, rfl⟩ := hx
     obtain ⟨p', hp', rfl⟩ := hy
     rw [hp] at hp'; cases hp'
     exact ⟨rfl, hρ _, by have := htup p (List.mem_of_getElem? hp); simpa using this⟩) hzc hz1 hfill'
    refine ⟨.agg cs', ?_, .agg_of g2 g3⟩
    have hplaces : ∀ (l : List Field), (∀ f ∈ l, (szT P f.type).isSome = true) → ∀ w : World, (l.mapM (fun (f : Field) => (do pure (f.offset, ← sizeOf f.type) : Sem (Nat × Nat)))).run P w = .ok (l.map fun f => (f.offset, (szT P f.type).getD 0)) w := by
     intro l
     induction l with
     | nil => intro _ w; simp
     | cons f l ih =>
      intro hl w
      obtain ⟨n, hn⟩ := Option.isSome_iff_exists.1 (hl f (by simp))
      have ih' := ih (fun g hg => hl g (by simp [hg]))
      simp only [List.mapM_cons, Sem.run_bind, zab1 hn, Result.andThen_ok, Sem.run_pure, ih', hn, List.map_cons, Option.getD_some]
    have hall : ∀ f ∈ fs.toList, (szT P f.type).isSome = true := by
     intro f hf
     obtain ⟨i, hi, rfl⟩ := List.getElem_of_mem hf
     have := Array.all_eq_true.1 hsz i (by simpa using hi)
     simpa using this
    simp only [Instr.build, Sem.run_bind, zeroValue, run_typeInfo (P := P) (w := w) hinf, Result.andThen_ok, hz, Sem.run_pure, run_underlying hu, Array.mapM_eq_mapM_toList, Sem.run_map, hplaces fs.toList hall]
    have hpl : (fun (i : Nat) => ((fs.toList.map fun (f : Field) => (f.offset, (szT P f.type).getD 0)).toArray)[i]?) = (fun (i : Nat) => (fs[i]?).map fun (f : Field) => (f.offset, (szT P f.type).getD 0)) := by
     funext i
     simp
    simp only [hpl]
    have : (Array.map (fun x => (x.fst, ρ' x.snd)) parts).toList = parts.toList.map fun p => (p.1, ρ' p.2) := by simp
    simp only [this, g1, Sem.run_pure]
   ·cases hsz
  ·cases h
 | load t a => exact wrap (zalv hR (hρ a) h)
 | nilCheck x =>
  simp only [lop] at h
  have hx := hρ x
  split at h
  ·rename_i a ha
   rw [ha] at hx
   cases h
   simp only [execOp]
   generalize ρ' x = x' at hx ⊢
   cases hx with
   | ptr i off m hm => exact ⟨_, rfl, .ptr _ _ _ hm⟩
  ·rename_i f a b ha
   rw [ha] at hx
   cases h
   simp only [execOp]
   generalize ρ' x = x' at hx ⊢
   cases hx with
   | func _ _ x' _ y' h1 h2 h3 h4 => exact ⟨_, rfl, .func _ _ _ _ _ h1 h2 h3 h4⟩
  ·cases h
 | binOp op t x y yt => exact wrap (zauw (hρ x) (hρ y) h)
 | unOp op t x =>
  simp only [lop] at h
  split at h
  ·rename_i hf
   obtain ⟨h1, h2⟩ := zaf3 h
   have := zafv 8 _ _ hf (hρ x)
   refine wrap ⟨v, ?_, zac5 8 v h2⟩
   rw [this]
   exact zae4 _ _ h1 w
  ·cases h
 | convert src dst x => exact wrap (zarz hR (hρ x) h)
 | makeFunc fn first captured =>
  cases fn with
  | func f =>
   simp only [lop] at h
   cases h
   refine wrap ⟨_, rfl, .func _ _ _ _ _ (by simp) (by simp) (fun i => ?_) (fun i => ?_)⟩
   ·by_cases hi : i < first.size
    ·simp [Array.getD_eq_getD_getElem?, hi]; exact hρ _
    ·simp [Array.getD_eq_getD_getElem?, hi]; exact .undef _ _
   ·by_cases hi : i < captured.size
    ·simp [Array.getD_eq_getD_getElem?, hi]; exact hρ _
    ·simp [Array.getD_eq_getD_getElem?, hi]; exact .undef _ _
  | _ => simp [lop] at h
 | slice t x lo hi mx =>
  refine wrap (zaqs (hρ x) ?_ ?_ ?_ h)
  ·cases lo <;> simp [hρ]
  ·cases hi <;> simp [hρ]
  ·cases mx <;> simp
 | fieldAddr t x i =>
  simp only [lop] at h
  have hx := hρ x
  split at h
  ·rename_i a ha
   rw [ha] at hx
   simp only [Option.bind_eq_some_iff] at h
   obtain ⟨⟨po, ps⟩, hp, h⟩ := h
   obtain ⟨fs, f, hfs, hf, e1, e2⟩ := zal7 hp
   split at h
   ·rename_i hc
    cases h
    refine wrap ?_
    generalize ρ' x = x' at hx ⊢
    cases hx with
    | ptr i off m hm =>
     refine ⟨.pointer (some ⟨m.blk, m.base + (off + po), none⟩), ?_, .ptr _ _ _ hm⟩
     simp only at e1 e2
     subst e1
     simp [Instr.fieldAt, run_underlying hfs, hf, Instr.sureAddr, zaks (by rw [e2]; exact hc.1), add_at, Nat.add_assoc]
   ·cases h
  ·cases h
 | field t x i =>
  simp only [lop] at h
  have hx := hρ x
  split at h
  ·rename_i cs hcs
   rw [hcs] at hx
   simp only [Option.bind_eq_some_iff] at h
   obtain ⟨⟨po, ps⟩, hp, u, hu, h⟩ := h
   obtain ⟨fs, f, hfs, hf, e1, e2⟩ := zal7 hp
   have hfu : f.type = u := by
    simp only [ftype, Option.bind_eq_some_iff, Option.map_eq_some_iff] at hu
    obtain ⟨fs', hfs', f', hf', e⟩ := hu
    have := zagu hfs'
    rw [hfs] at this
    cases this
    rw [hf] at hf'; cases hf'; exact e
   simp only at e1
   subst e1 hfu
   refine wrap ?_
   generalize ρ' x = x' at hx ⊢
   cases hx with
   | agg _ cs' h1 h0 h2 =>
    obtain ⟨v', g1, g2⟩ := zal6 (P := P) (w := w) (.of_array h1 h2) h0 h
    exact ⟨v', by simp [Instr.field, run_underlying hfs, hf, asAgg, g1], g2⟩
  ·cases h
 | indexAddr t x i => exact wrap (zajl (hρ x) (hρ i) h)
 | index t x i => exact wrap (zap7 (hρ x) (hρ i) h)
 | lookup t x i ok => exact wrap (zanc hR (hρ x) (hρ i) h)
 | extract x i =>
  simp only [lop] at h
  have hx := hρ x
  split at h
  ·rename_i vs hvs
   rw [hvs] at hx
   refine wrap ?_
   generalize ρ' x = x' at hx ⊢
   cases hx with
   | junk v => simp at h
   | tuple _ vs' h1 h2 =>
    obtain ⟨v', g1, g2⟩ := (VRs.of_array h1 h2).get? (by simpa using h)
    have : vs'[i]? = some v' := by simpa using g1
    exact ⟨v', by simp [Instr.extract, this], g2⟩
  ·cases h
 | call c =>
  simp only [lop] at h
  split at h
  ·rename_i t x hb ht hx
   have e1 := zakl ht
   have e2 := zakl hx
   obtain ⟨v', g1, g2⟩ := zavq (ty := type) hR (hρ x) h
   refine ⟨v', ?_, g2⟩
   simp [execOp, resolve, hb, invoke, builtin, e1, e2, g1]
  ·rename_i x y hb hx
   have e2 := zae9 hx
   have h1 := hρ x
   have h2 := hρ y
   unfold amin at h
   split at h
   ·rename_i k a l b ha hb2
    split at h
    ·rename_i hk
     subst hk
     cases h
     rw [ha] at h1
     rw [hb2] at h2
     have i1 := h1.int_inv
     have i2 := h2.int_inv
     refine ⟨.int k (if b < a then b else a), ?_, .int _ _⟩
     simp [execOp, resolve, hb, invoke, builtin, e2, i1, i2, Builtin.min_, Builtin.min2]
    ·cases h
   ·cases h
  ·rename_i x y hb hx
   have e2 := zae9 hx
   have h1 := hρ x
   have h2 := hρ y
   unfold amax at h
   split at h
   ·rename_i k a l b ha hb2
    split at h
    ·rename_i hk
     subst hk
     cases h
     rw [ha] at h1
     rw [hb2] at h2
     have i1 := h1.int_inv
     have i2 := h2.int_inv
     refine ⟨.int k (if a < b then b else a), ?_, .int _ _⟩
     simp [execOp, resolve, hb, invoke, builtin, e2, i1, i2, Builtin.max_, Builtin.max2]
    ·cases h
   ·cases h
  ·rename_i x hb hx
   have e2 := zakl hx
   have h1 := hρ x
   unfold adata at h
   split at h
   ·rename_i ha
    cases h
    rw [ha] at h1
    have i1 : ρ' x = .slice none 0 0 := by generalize ρ' x = x' at h1; cases h1; rfl
    have := Lib.run_unsafeSliceData_nil (P := P) (w := w) c.argTypes type 0 0
    exact ⟨.pointer none, by simp [execOp, resolve, hb, invoke, builtin, e2, i1, this], .ptr0⟩
   ·rename_i a n sz ha
    cases h
    rw [ha] at h1
    generalize hx' : ρ' x = x' at h1
    cases h1 with
    | slice i off _ _ cap m hm g1 g2 =>
     refine ⟨.pointer (some ⟨m.blk, m.base + off, none⟩), ?_, .ptr i off m hm⟩
     have := Lib.run_unsafeSliceData_row (P := P) (w := w) c.argTypes type ⟨m.blk, m.base + off, none⟩ (n + 1) cap (by omega)
     simp [execOp, resolve, hb, invoke, builtin, e2, hx', this]
   ·cases h
  ·cases h
 | _ => simp [lop] at h
end
end Go.Proofs.YtliemjbafgnnbaaDoor.Abs
