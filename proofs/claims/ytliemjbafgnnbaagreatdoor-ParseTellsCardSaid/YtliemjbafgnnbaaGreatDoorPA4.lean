/- Every operation that leaves the heap as it is, in one theorem. -/
import Derived.Test.YtliemjbafgnnbaaGreatDoorPA3
import Derived.Laws.Strings
import Derived.Laws.StructEq
import Derived.Lib.UnsafeStr
set_option linter.unnecessarySimpa false
set_option linter.unusedSimpArgs false
set_option linter.unusedVariables false
namespace Go.Proofs.YtliemjbafgnnbaaGreatDoor.Abs
open Go Go.RowKit
section
variable {P : Program} {B : Nat} {w0 : Base} {w : World} {φ : Plan} {H : Hp}
theorem zahj {t : TypeId} {fs : Array Field} (h : afields P t = some fs) : P.underlying t = some (.struct fs) := by
 unfold afields at h
 split at h
 ·cases h; assumption
 ·cases h
theorem zanr {t : TypeId} {i : Nat} {p : Nat × Nat} (h : place P t i = some p) : ∃ (fs : Array Field) (f : Field), P.underlying t = some (.struct fs) ∧ fs[i]? = some f ∧ f.offset = p.1 ∧ (szT P f.type).getD 0 = p.2 := by
 simp only [place, Option.bind_eq_some_iff, Option.map_eq_some_iff] at h
 obtain ⟨fs, hfs, f, hf, rfl⟩ := h
 exact ⟨fs, f, zahj hfs, hf, rfl, rfl⟩
theorem zal8 {a : Addr} {f : Field} (h : (szT P f.type).getD 0 ≠ 0) (w : World) : (fieldPlace a f).run P w = .ok (a.add f.offset) w := by
 cases hs : szT P f.type with
 | none => rw [hs] at h; simp at h
 | some n =>
  rw [hs] at h
  have hn : n ≠ 0 := by simpa using h
  simp [fieldPlace, zacm hs, hn]
theorem zai5 : ∀ (c c' : List Value) (l : List UInt8), bytesOfCells c = some l → VRs φ c c' → c' = c := by
 intro c c' l h hr
 refine hr.eq_of ?_
 clear hr
 induction c generalizing l with
 | nil => intro v hv; cases hv
 | cons x r ih =>
  intro v hv v' hr
  cases x with
  | int k n =>
   cases k <;> simp [bytesOfCells] at h
   obtain ⟨l', hl', _⟩ := h
   rcases List.mem_cons.1 hv with rfl | hv
   ·cases hr; rfl
   ·exact ih l' hl' v hv v' hr
  | _ => simp [bytesOfCells] at h
theorem zavc (a : ByteArray) (b : UInt8) : (a.push b).data.toList = a.data.toList ++ [b] := by simp [ByteArray.push]
theorem zaip : ∀ (c : List Value) (l : List UInt8) (acc : ByteArray), bytesOfCells c = some l →
    (forIn (m := Sem) c acc (fun x s => match x with
     | .int .u8 n => pure (ForInStep.yield (s.push (UInt8.ofNat n.toNat)))
     | _ => (do stuck "bytesToString: byte expected"; pure (ForInStep.yield s)))).run P w = .ok ⟨(acc.data.toList ++ l).toArray⟩ w := by
 intro c
 induction c with
 | nil => intro l acc h; simp [bytesOfCells] at h; subst h; simp
 | cons x r ih =>
  intro l acc h
  cases x with
  | int k n =>
   cases k <;> simp [bytesOfCells] at h
   obtain ⟨l', hl', rfl⟩ := h
   have := ih l' (acc.push (UInt8.ofNat n.toNat)) hl'
   simp only [List.forIn_cons, Sem.run_bind, Sem.run_pure, Result.andThen_ok]
   rw [this, zavc]
   simp
  | _ => simp [bytesOfCells] at h
theorem zai6 {c : List Value} {l : List UInt8} (h : bytesOfCells c = some l) {a : Addr} {n cap : Nat} (hl : (loadCells a n).run P w = .ok c.toArray w) :
    (Conv.bytesToString (.slice (some a) n cap)).run P w = .ok (.string ⟨l.toArray⟩) w := by
 have := zaip (P := P) (w := w) c l ByteArray.empty h
 simp only [Conv.bytesToString, Sem.run_bind, hl, Result.andThen_ok, List.forIn_toArray]
 exact (congrArg (fun r : Result ByteArray => r.andThen fun a w' => Sem.run P (pure (Value.string a)) w') this).trans (by simp [ByteArray.empty, ByteArray.emptyWithCapacity]; rfl)
theorem zat1 (hR : Rel B w0 φ H w) {src dst : TypeId} {x x' v : Value} (hx : VR φ x x') (h : aconv P src dst x H = some v) :
    ∃ v', (convert src dst x').run P w = .ok v' w ∧ VR φ v v' := by
 have gen : ∀ d d', P.underlying src = some d → P.underlying dst = some d' → (if flat 8 x then onlyFlat (pureRun P (convert src dst x)) else none) = some v → ∃ v', (convert src dst x').run P w = .ok v' w ∧ VR φ v v' := by
  intro d d' _ _ h
  split at h
  ·rename_i hf
   obtain ⟨h1, h2⟩ := zags h
   have := zaju 8 _ _ hf hx
   subst this
   exact ⟨v, zait _ _ h1 w, zaed 8 v h2⟩
  ·cases h
 unfold aconv at h
 split at h
 ·rename_i e hs hd
  split at h
  ·rename_i he
   cases h
   cases hx with
   | slice0 => exact ⟨.string .empty, by simp [convert, run_underlying hs, run_underlying hd, run_underlying he, Conv.bytesToString], .string _⟩
  ·cases h
 ·rename_i e a n sz hs hd
  split at h
  ·rename_i he
   cases hc : cellsAt H a n with
   | none => rw [hc] at h; cases h
   | some c =>
    rw [hc] at h
    simp only [Option.bind_some, Option.map_eq_some_iff] at h
    obtain ⟨l, hl, rfl⟩ := h
    have fin : ∀ a' cap, (loadCells a' n).run P w = .ok c.toArray w → ∃ v', (convert src dst (.slice (some a') n cap)).run P w = .ok v' w ∧ VR φ (.string ⟨l.toArray⟩) v' := by
     intro a' cap hla
     refine ⟨.string ⟨l.toArray⟩, ?_, .string _⟩
     simp [convert, run_underlying hs, run_underlying hd, run_underlying he, zai6 hl hla]
    cases hx with
    | slice i off _ _ cap m hm h1 h2 =>
     obtain ⟨cs', g1, g2, g3, g4⟩ := zal6 hR hc hm
     have e1 := zai5 (φ := φ) c cs' l hl g1
     have hll := run_loadCells_list (P := P) w _ cs' g4
     rw [g2, e1] at hll
     exact fin _ _ hll
    | sliceE _ b _ =>
     refine fin b 0 ?_
     have : c = [] := by
      simp only [cellsAt, if_true, Option.some.injEq] at hc
      exact hc.symm
     subst this
     simp [loadCells, loadCellsFrom]
  ·cases h
 ·cases h
 ·rename_i hs' hd' _ _
  exact gen _ _ (by assumption) (by assumption) h
 ·cases h
theorem zahy {lo hi lo' hi' : Option Value} {n cap : Nat} {l h : Int} {sl : Bool}
    (hlo : match lo, lo' with | none, none => True | some v, some v' => VR φ v v' | _, _ => False) (hhi : match hi, hi' with | none, none => True | some v, some v' => VR φ v v' | _, _ => False)
    (e1 : abound hi n = some h) (e2 : abound lo 0 = some l) (b1 : 0 ≤ l) (b2 : l ≤ h) (b3 : h ≤ cap) : (Instr.sliceBounds sl n cap lo' hi' none).run P w = .ok (l.toNat, h.toNat, cap) w := by
 have b0 : (0 : Int) ≤ h := Int.le_trans b1 b2
 have b4 := Int.toNat_of_nonneg b0
 have f1 : (hi = none ∧ hi' = none ∧ h = n) ∨ ∃ k, hi' = some (.int k h) := by
  cases hi with
  | none => cases hi' with
   | none => simp [abound] at e1; exact .inl ⟨rfl, rfl, e1.symm⟩
   | some _ => exact hhi.elim
  | some r => cases hi' with
   | none => exact hhi.elim
   | some r' =>
    cases r <;> simp [abound] at e1
    cases hhi
    subst e1
    exact .inr ⟨_, rfl⟩
 have f2 : (lo' = none ∧ l = 0) ∨ ∃ k, lo' = some (.int k l) := by
  cases lo with
  | none => cases lo' with
   | none => simp [abound] at e2; exact .inl ⟨rfl, e2.symm⟩
   | some _ => exact hlo.elim
  | some r => cases lo' with
   | none => exact hlo.elim
   | some r' =>
    cases r <;> simp [abound] at e2
    cases hlo
    subst e2
    exact .inr ⟨_, rfl⟩
 rcases f1 with ⟨_, rfl, rfl⟩ | ⟨k, rfl⟩ <;> rcases f2 with ⟨rfl, rfl⟩ | ⟨k', rfl⟩ <;> simp [Instr.sliceBounds, Instr.sliceBound, asIntOf, asInt, b0, b1, b2, b3, b4]
theorem zast {t : TypeId} {x x' v : Value} {lo hi mx lo' hi' mx' : Option Value} (hx : VR φ x x')
    (hlo : match lo, lo' with | none, none => True | some v, some v' => VR φ v v' | _, _ => False) (hhi : match hi, hi' with | none, none => True | some v, some v' => VR φ v v' | _, _ => False)
    (hmx : mx = none → mx' = none) (h : aslice P t x lo hi mx = some v) :
    ∃ v', (Instr.sliceAt t x' lo' hi' mx').run P w = .ok v' w ∧ VR φ v v' := by
 unfold aslice at h
 split at h
 ·rename_i s hu
  have hm := hmx rfl
  subst hm
  cases hx
  simp only [Option.bind_eq_some_iff] at h
  obtain ⟨hv, eh, l, el, h⟩ := h
  split at h
  ·rename_i hb
   cases h
   have hsb := zahy (P := P) (w := w) (sl := false) hlo hhi eh el hb.1 hb.2.1 hb.2.2
   exact ⟨_, by simp only [Instr.sliceAt, Sem.run_bind, run_underlying hu, Result.andThen_ok, Instr.slice, hsb, Option.isSome_none, Bool.false_eq_true, if_false, Sem.run_pure], .string _⟩
  ·cases h
 ·rename_i e hu
  have hm := hmx rfl
  subst hm
  simp only [Option.bind_eq_some_iff] at h
  obtain ⟨hv, eh, l, el, h⟩ := h
  split at h
  ·rename_i hb
   cases h
   cases hx
   have hsb := zahy (P := P) (w := w) (sl := true) (n := 0) (cap := 0) hlo hhi eh el hb.1 hb.2.1 hb.2.2.1
   obtain ⟨sz, hs⟩ := Option.isSome_iff_exists.1 hb.2.2.2
   have z1 : l.toNat = 0 := by omega
   have z2 : hv.toNat = 0 := by omega
   rw [z1, z2] at hsb
   exact ⟨.slice none 0 0, by simp [Instr.sliceAt, run_underlying hu, Instr.slice, hsb, zacm hs], .slice0⟩
  ·cases h
 ·rename_i e a n sz hu
  have hm := hmx rfl
  subst hm
  simp only [Option.bind_eq_some_iff] at h
  obtain ⟨hv, eh, l, el, h⟩ := h
  split at h
  ·rename_i hb
   cases h
   obtain ⟨hs, hsp, b1, b2, b3⟩ := hb
   cases hx with
   | slice i off _ _ cap m hm h1 h2 =>
    have hsb := zahy (P := P) (w := w) (sl := true) (n := n) (cap := cap) hlo hhi eh el b1 b2 (by omega)
    have hrun : (Instr.sliceAt t (.slice (some ⟨m.blk, m.base + off, none⟩) n cap) lo' hi' none).run P w = .ok (.slice (some (if cap = l.toNat then ⟨m.blk, m.base + off, none⟩ else (⟨m.blk, m.base + off, none⟩ : Addr).add (l.toNat * sz))) (hv.toNat - l.toNat) (cap - l.toNat)) w := by
     simp [Instr.sliceAt, run_underlying hu, Instr.slice, hsb, zacm hs]
     split <;> rfl
    refine ⟨_, hrun, ?_⟩
    have e3 : (hv - l).toNat = hv.toNat - l.toNat := by omega
    rw [e3]
    split
    ·rename_i hcap
     have z1 : hv.toNat - l.toNat = 0 := by omega
     have z2 : cap - l.toNat = 0 := by omega
     rw [z1, z2]
     exact .sliceE _ _ _
    ·rw [add_at]
     have := VR.slice (φ := φ) i (off + l.toNat * sz) (hv.toNat - l.toNat) sz (cap - l.toNat) m hm (by omega) (by
      rw [← h2]
      have : cap * sz = l.toNat * sz + (cap - l.toNat) * sz := by rw [← Nat.add_mul]; congr 1; omega
      omega)
     rwa [← Nat.add_assoc] at this
   | sliceE _ b _ =>
    have l0 : l = 0 := by omega
    have h0 : hv = 0 := by omega
    subst l0 h0
    have hsb := zahy (P := P) (w := w) (sl := true) (n := 0) (cap := 0) hlo hhi eh el (by omega) (by omega) (by omega)
    exact ⟨.slice (some b) 0 0, by simp [Instr.sliceAt, run_underlying hu, Instr.slice, hsb, zacm hs], .sliceE _ _ _⟩
  ·cases h
 ·cases h
theorem zagn (t : TypeId) (x y : Value) : Op.equal t x y = Op.equalIn (9999 + 1) t x y := rfl
theorem zazy {t e : TypeId} (hu : P.underlying t = some (.pointer e)) (a : Addr) : (Op.equal t (.pointer (some a)) (.pointer none)).run P w = .ok false w := by
 rw [zagn]; generalize 9999 = d; simp [Op.equalIn, run_underlying hu]
theorem zazx {t k e : TypeId} (hu : P.underlying t = some (.map k e)) (a : Nat) : (Op.equal t (.map (some a)) (.map none)).run P w = .ok false w := by
 rw [zagn]; generalize 9999 = d; simp [Op.equalIn, run_underlying hu]
theorem zaqm {t u : TypeId} {ms : Array (String × TypeId)} {x : Value} (hu : P.underlying t = some (.interface ms)) : (Op.equal t (.iface u x) .nilIface).run P w = .ok false w := by
 rw [zagn]; generalize 9999 = d; simp [Op.equalIn, run_underlying hu]
theorem zaqn {t e : TypeId} (hu : P.underlying t = some (.slice e)) (a : Addr) (n c : Nat) : (Op.equal t (.slice (some a) n c) (.slice none 0 0)).run P w = .ok false w := by
 rw [zagn]; generalize 9999 = d; simp [Op.equalIn, run_underlying hu]
theorem VR.bool_inv {b : Bool} {v : Value} (h : VR φ (.bool b) v) : v = .bool b := by cases h; rfl
theorem zamy {t : TypeId} {cs : Array Value} {off : Nat} {v : Value} (h : apart P t cs off = some v) : (part t cs off).run P w = .ok v w := by
 unfold apart at h
 split at h
 ·cases h
 ·rename_i d hd
  split at h
  ·rename_i hagg
   cases hs : szT P t with
   | none => rw [hs] at h; cases h
   | some n =>
    rw [hs] at h
    simp only [Option.bind_some] at h
    split at h
    ·cases h
     simp [part, zag7 hd, hagg, zacm hs]
    ·cases h
  ·rename_i hagg
   have hagg' : isAggT P t = false := by simpa using hagg
   simp [part, zag7 hd, hagg', h]
theorem za4t : ∀ (d : Nat) (t : TypeId) (x y : Value) (b : Bool), aeq P d t x y = some b → ∀ m, d ≤ m → ∀ w : World, (Op.equalIn m t x y).run P w = .ok b w := by
 intro d
 induction d with
 | zero => intro t x y b h; simp [aeq] at h
 | succ d ih =>
  intro t x y b h m hm w
  obtain ⟨m, rfl⟩ : ∃ q, m = q + 1 := ⟨m - 1, by omega⟩
  simp only [aeq] at h
  split at h
  ·rename_i hu; cases h; simp [Op.equalIn, run_underlying hu]
  ·rename_i hu
   split at h
   ·rename_i hk; cases h; simp [Op.equalIn, run_underlying hu, hk]
   ·cases h
  ·rename_i hu; cases h; simp [Op.equalIn, run_underlying hu, beq_toListBytes]
  ·rename_i fs xs ys hu
   split at h
   ·cases h
   ·rename_i hp
    have hf : P.fieldsOf t = fs := by simp [Program.fieldsOf, hu]
    rw [run_equalIn_struct w m t xs ys (by rw [hf]; exact hu) (by simpa using hp), hf]
    generalize fs.toList = l at h
    clear hu hf
    induction l generalizing w with
    | nil => simp only [aeqF] at h; cases h; simp [Op.eqFields]
    | cons f l ihl =>
     simp only [aeqF] at h
     split at h
     ·rename_i hn
      simp only [Op.eqFields, hn, ne_eq, not_true_eq_false, if_false]
      exact ihl w h
     ·rename_i hn
      simp only [Option.bind_eq_some_iff] at h
      obtain ⟨a, ha, c, hc, r, hr, h⟩ := h
      simp only [Op.eqFields, ne_eq, hn, not_false_eq_true, if_true, Sem.run_bind, zamy (P := P) (w := w) ha, zamy (P := P) (w := w) hc, Result.andThen_ok, ih _ _ _ _ hr m (by omega) w]
      cases r with
      | true => simp only [if_true] at h; simpa using ihl w h
      | false => simp only [Bool.false_eq_true, if_false] at h; cases h; simp
  ·cases h
theorem zazh {op : BinOp} {t : TypeId} {x y : Operand} {a b : Value} {r : Bool} (ha : aggVal a = true) (hb : aggVal b = true) (hg : P.eqGuardType P.depth t = false) (h : aeq P 20 t a b = some r) :
    (op = .eql → (do eqGuard op t x y a b; binOp op t a b : Sem Value).run P w = .ok (.bool r) w) ∧ (op = .neq → (do eqGuard op t x y a b; binOp op t a b : Sem Value).run P w = .ok (.bool (!r)) w) := by
 have he := za4t 20 t a b r h 10000 (by omega) w
 have heq : (Op.equal t a b).run P w = .ok r w := he
 have hgd : (eqGuard op t x y a b).run P w = .ok () w := by
  cases a <;> cases b <;> simp_all [aggVal] <;> cases op <;> simp [eqGuard, run_program, hg]
 have hop : ∀ o, o = BinOp.eql ∨ o = BinOp.neq → binOp o t a b = if o = .eql then (do pure (.bool (← Op.equal t a b))) else (do pure (.bool (!(← Op.equal t a b)))) := by
  intro o ho
  cases a <;> cases b <;> simp_all [aggVal] <;> rcases ho with rfl | rfl <;> rfl
 constructor
 ·rintro rfl
  rw [hop _ (.inl rfl)]
  simp only [Sem.run_bind, hgd, Result.andThen_ok, if_true, heq, Sem.run_pure]
 ·rintro rfl
  rw [hop _ (.inr rfl)]
  simp only [Sem.run_bind, hgd, Result.andThen_ok, heq, Sem.run_pure, reduceCtorEq, if_false]
theorem zaxd {op : BinOp} {t : TypeId} {x y : Operand} {a b a' b' v : Value} (ha : VR φ a a') (hb : VR φ b b') (h : abin P op t x y a b = some v) :
    ∃ v', (do eqGuard op t x y a' b'; binOp op t a' b' : Sem Value).run P w = .ok v' w ∧ VR φ v v' := by
 unfold abin at h
 split at h
 ·rename_i hf
  simp only [Bool.and_eq_true] at hf
  obtain ⟨⟨⟨i1, i2⟩, f1⟩, f2⟩ := hf
  have e1 := zaju 8 _ _ f1 ha
  have e2 := zaju 8 _ _ f2 hb
  subst e1 e2
  split at h
  ·split at h
   ·cases h
   ·rename_i hg
    simp only [Option.map_eq_some_iff] at h
    obtain ⟨r, hr, rfl⟩ := h
    exact ⟨_, (zazh (P := P) (w := w) (x := x) (y := y) i1 i2 (by simpa using hg) hr).1 rfl, .bool _⟩
  ·split at h
   ·cases h
   ·rename_i hg
    simp only [Option.map_eq_some_iff] at h
    obtain ⟨r, hr, rfl⟩ := h
    exact ⟨_, (zazh (P := P) (w := w) (x := x) (y := y) i1 i2 (by simpa using hg) hr).2 rfl, .bool _⟩
  ·cases h
 split at h
 ·rename_i hf
  simp only [Bool.and_eq_true] at hf
  have e1 := zaju 8 _ _ hf.1 ha
  have e2 := zaju 8 _ _ hf.2 hb
  subst e1 e2
  obtain ⟨h1, h2⟩ := zags h
  exact ⟨v, zait _ _ h1 w, zaed 8 v h2⟩
 ·split at h
  ·split at h
   ·rename_i hu
    cases h
    cases ha; cases hb
    exact ⟨_, by simp [eqGuard, binOp, zazy hu], .bool _⟩
   ·cases h
  ·split at h
   ·rename_i hu
    cases h
    cases ha; cases hb
    exact ⟨_, by simp [eqGuard, binOp, zazy hu], .bool _⟩
   ·cases h
  ·split at h
   ·rename_i hu
    cases h
    cases ha <;> cases hb <;> exact ⟨_, by simp [eqGuard, binOp, zaqn hu], .bool _⟩
   ·cases h
  ·split at h
   ·rename_i hu
    cases h
    cases ha <;> cases hb <;> exact ⟨_, by simp [eqGuard, binOp, zaqn hu], .bool _⟩
   ·cases h
  ·split at h
   ·rename_i hu
    cases h
    cases ha; cases hb
    exact ⟨_, by simp [eqGuard, binOp, zazx hu], .bool _⟩
   ·cases h
  ·split at h
   ·rename_i hu
    cases h
    cases ha; cases hb
    exact ⟨_, by simp [eqGuard, binOp, zazx hu], .bool _⟩
   ·cases h
  ·split at h
   ·rename_i hu
    cases h
    cases ha; cases hb
    exact ⟨_, by simp [eqGuard, binOp, zaqm hu], .bool _⟩
   ·cases h
  ·split at h
   ·rename_i hu
    cases h
    cases ha; cases hb
    exact ⟨_, by simp [eqGuard, binOp, zaqm hu], .bool _⟩
   ·cases h
  ·cases h
theorem zakx {t : TypeId} {x i x' i' v : Value} (hx : VR φ x x') (hi : VR φ i i') (h : aindexAddr P t x i = some v) :
    ∃ v', (Instr.indexAt t x' i').run P w = .ok v' w ∧ VR φ v v' := by
 unfold aindexAddr at h
 split at h
 ·rename_i e a n sz k j hu
  split at h
  ·rename_i hc
   split at h
   ·rename_i hb
    cases h
    cases hi
    cases hx with
    | slice i off _ _ cap m hm h1 h2 =>
     refine ⟨.pointer (some ⟨m.blk, m.base + (off + j.toNat * sz), none⟩), ?_, .ptr _ _ _ hm⟩
     simp [Instr.indexAt, asIntOf, run_underlying hu, hb.1, hb.2, zacm hc.1, add_at, Nat.add_assoc]
    | sliceE _ b _ => exact absurd hb (by omega)
   ·cases h
  ·cases h
 ·rename_i n e a k j hu
  cases hs : szT P e with
  | none => rw [hs] at h; cases h
  | some sz =>
   rw [hs] at h
   simp only [Option.bind_some] at h
   split at h
   ·split at h
    ·rename_i hb
     cases h
     cases hi
     cases hx with
     | ptr i off m hm =>
      refine ⟨.pointer (some ⟨m.blk, m.base + (off + j.toNat * sz), none⟩), ?_, .ptr _ _ _ hm⟩
      simp [Instr.indexAt, asIntOf, run_underlying hu, Instr.sureAddr, hb.1, hb.2, zacm hs, add_at, Nat.add_assoc]
    ·cases h
   ·cases h
 ·cases h
theorem zasa {t : TypeId} {x i x' i' v : Value} (hx : VR φ x x') (hi : VR φ i i') (h : aindex P t x i = some v) :
    ∃ v', (Instr.index t x' i').run P w = .ok v' w ∧ VR φ v v' := by
 unfold aindex at h
 split at h
 ·rename_i s k j hu
  cases hx; cases hi
  split at h
  ·rename_i hj
   cases hg : s[j.toNat]? with
   | none => rw [hg] at h; cases h
   | some b =>
    rw [hg] at h
    cases h
    exact ⟨_, by simp [Instr.index, asIntOf, run_underlying hu, hj, hg], .int _ _⟩
  ·cases h
 ·rename_i n e cs k j hu
  cases hi
  split at h
  ·rename_i hj
   cases hs : szT P e with
   | none => rw [hs] at h; cases h
   | some sz =>
    rw [hs] at h
    simp only [Option.bind_some] at h
    cases hx with
    | agg _ cs' h1 h0 h2 =>
     obtain ⟨v', g1, g2⟩ := zanq (P := P) (w := w) (.of_array h1 h2) h0 h
     exact ⟨v', by simp [Instr.index, asIntOf, run_underlying hu, hj, zacm hs, g1], g2⟩
  ·cases h
 ·cases h
theorem zax7 (hR : Rel B w0 φ H w) {t ty : TypeId} {x x' v : Value} (hx : VR φ x x') (h : alen P t x H = some v) :
    ∃ v', (Builtin.len_ #[t] ty #[x']).run P w = .ok v' w ∧ VR φ v v' := by
 unfold alen at h
 split at h
 ·rename_i s hu
  cases h; cases hx
  exact ⟨_, by simp [Builtin.len_, run_underlying hu, goInt], .int _ _⟩
 ·rename_i e a n c hu
  cases h
  cases hx <;> exact ⟨_, by simp [Builtin.len_, run_underlying hu, goInt], .int _ _⟩
 ·rename_i n e hu
  cases h
  exact ⟨_, by simp [Builtin.len_, run_underlying hu, goInt], .int _ _⟩
 ·rename_i k e hu
  cases h; cases hx
  exact ⟨_, by simp [Builtin.len_, run_underlying hu, goInt], .int _ _⟩
 ·rename_i k e r hu
  cases hg : H.get r with
  | map es clock =>
   rw [hg] at h
   cases h
   cases hx with
   | map i m hm =>
    have hb := hR.blkOf hm
    rw [hg] at hb
    obtain ⟨m', es', hp, _, hh, hr⟩ := hb
    have : m' = m := by rw [hp] at hm; exact Option.some.inj hm
    subst this
    refine ⟨.int .i64 es.length, ?_, .int _ _⟩
    simp [Builtin.len_, run_underlying hu, goInt, getObj, Sem.run, hh, hr.1]
  | _ => rw [hg] at h; cases h
 ·cases h
theorem zal1 {α : Type} {x : Array α} {a : α} (h : x.toList = [a]) : x = #[a] := by cases x; simp_all
theorem zag3 {α : Type} {x : Array α} {a b : α} (h : x.toList = [a, b]) : x = #[a, b] := by cases x; simp_all
theorem VR.int_inv {φ : Plan} {k : IntKind} {n : Int} {v : Value} (h : VR φ (.int k n) v) : v = .int k n := by cases h; rfl
theorem zax8 (hR : Rel B w0 φ H w) {ρ ρ' : Operand → Value} (hρ : ∀ x, VR φ (ρ x) (ρ' x)) {o : Oper} {v : Value} (h : lop P ρ H o.op = some v) :
    ∃ v', (execOp ρ' o).run P w = .ok (.value v') w ∧ VR φ v v' := by
 have wrap : ∀ {s : Sem Value}, (∃ v', s.run P w = .ok v' w ∧ VR φ v v') → ∃ v', (do pure (Next.value (← s)) : Sem Next).run P w = .ok (.value v') w ∧ VR φ v v' := by
  intro s ⟨v', h1, h2⟩
  exact ⟨v', by simp [h1], h2⟩
 obtain ⟨dst, op, type, pos, after, guard⟩ := o
 simp only at h
 cases op with
 | move x => simp only [lop] at h; cases h; exact ⟨ρ' x, rfl, hρ x⟩
 | assign x => simp only [lop] at h; cases h; exact ⟨ρ' x, rfl, hρ x⟩
 | pick c a b =>
  simp only [lop] at h
  have hc := hρ c
  split at h
  ·rename_i t ht
   rw [ht] at hc
   cases h
   have hcb := hc.bool_inv
   refine ⟨if t then ρ' a else ρ' b, ?_, ?_⟩
   ·show (do pure (Next.value (if ← asBool (ρ' c) then ρ' a else ρ' b)) : Sem Next).run P w = _
    rw [hcb]
    simp [asBool]
   ·cases t
    ·exact hρ b
    ·exact hρ a
  ·cases h
 | build t parts =>
  simp only [lop] at h
  simp only [Option.bind_eq_some_iff] at h
  obtain ⟨z, hz, h⟩ := h
  split at h
  ·rename_i hc
   simp only [Bool.and_eq_true, List.all_eq_true] at hc
   obtain ⟨⟨hsz, hfl⟩, htup⟩ := hc
   simp only [Option.map_eq_some_iff] at h
   obtain ⟨cs, hfill, rfl⟩ := h
   unfold sized at hsz
   split at hsz
   ·rename_i fs hfs
    have hu := zahj hfs
    simp only [zeroT, Option.bind_eq_some_iff] at hz
    obtain ⟨inf, hinf, hz⟩ := hz
    have hzr := zaed (φ := φ) 8 z hfl
    have hzt : isTup z = false := by cases z <;> simp_all [flat, isTup]
    have hzc := hzr.cells (by intro e; subst e; simp [isTup] at hzt)
    have hz1 := hzr.one hzt
    have hfill' := zahw _ _ _ hfill
    have hpl0 : place P t = fun i => (fs[i]?).map fun f => (f.offset, (szT P f.type).getD 0) := by
     funext i; simp [place, hfs]
    rw [hpl0, Array.toArray_toList] at hfill'
    refine wrap ?_
    obtain ⟨cs', g1, g2, g3⟩ := zajt (φ := φ) (parts.toList.map fun p => (p.1, ρ p.2)) (parts.toList.map fun p => (p.1, ρ' p.2)) z.cells z.cells cs.toArray (by simp) (fun i x y hx hy => by
     simp only [List.getElem?_map, Option.map_eq_some_iff] at hx hy
     obtain ⟨p, hp, rfl⟩ := hx
     obtain ⟨p', hp', rfl⟩ := hy
     rw [hp] at hp'; cases hp'
     exact ⟨rfl, hρ _, by have := htup p (List.mem_of_getElem? hp); simpa using this⟩) hzc hz1 hfill'
    refine ⟨.agg cs', ?_, .agg_of g2 g3⟩
    have hplaces : ∀ (l : List Field), (∀ f ∈ l, (szT P f.type).isSome = true) → ∀ w : World, (l.mapM (fun (f : Field) => (do pure (f.offset, ← sizeOf f.type) : Sem (Nat × Nat)))).run P w = .ok (l.map fun f => (f.offset, (szT P f.type).getD 0)) w := by
     intro l
     induction l with
     | nil => intro _ w; simp
     | cons f l ih =>
      intro hl w
      obtain ⟨n, hn⟩ := Option.isSome_iff_exists.1 (hl f (by simp))
      have ih' := ih (fun g hg => hl g (by simp [hg]))
      simp only [List.mapM_cons, Sem.run_bind, zacm hn, Result.andThen_ok, Sem.run_pure, ih', hn, List.map_cons, Option.getD_some]
    have hall : ∀ f ∈ fs.toList, (szT P f.type).isSome = true := by
     intro f hf
     obtain ⟨i, hi, rfl⟩ := List.getElem_of_mem hf
     have := Array.all_eq_true.1 hsz i (by simpa using hi)
     simpa using this
    simp only [Instr.build, Sem.run_bind, zeroValue, run_typeInfo (P := P) (w := w) hinf, Result.andThen_ok, hz, Sem.run_pure, run_underlying hu, Array.mapM_eq_mapM_toList, Sem.run_map, hplaces fs.toList hall]
    have hpl : (fun (i : Nat) => ((fs.toList.map fun (f : Field) => (f.offset, (szT P f.type).getD 0)).toArray)[i]?) = (fun (i : Nat) => (fs[i]?).map fun (f : Field) => (f.offset, (szT P f.type).getD 0)) := by
     funext i
     simp
    simp only [hpl]
    have : (Array.map (fun x => (x.fst, ρ' x.snd)) parts).toList = parts.toList.map fun p => (p.1, ρ' p.2) := by simp
    simp only [this, g1, Sem.run_pure]
   ·cases hsz
  ·cases h
 | load t a => exact wrap (zanh hR (hρ a) h)
 | nilCheck x =>
  simp only [lop] at h
  have hx := hρ x
  split at h
  ·rename_i a ha
   rw [ha] at hx
   cases h
   simp only [execOp]
   generalize ρ' x = x' at hx ⊢
   cases hx with
   | ptr i off m hm => exact ⟨_, rfl, .ptr _ _ _ hm⟩
  ·rename_i f a b ha
   rw [ha] at hx
   cases h
   simp only [execOp]
   generalize ρ' x = x' at hx ⊢
   cases hx with
   | func _ _ x' _ y' h1 h2 h3 h4 => exact ⟨_, rfl, .func _ _ _ _ _ h1 h2 h3 h4⟩
  ·cases h
 | binOp op t x y yt => exact wrap (zaxd (hρ x) (hρ y) h)
 | unOp op t x =>
  simp only [lop] at h
  split at h
  ·rename_i hf
   obtain ⟨h1, h2⟩ := zags h
   have := zaju 8 _ _ hf (hρ x)
   refine wrap ⟨v, ?_, zaed 8 v h2⟩
   rw [this]
   exact zait _ _ h1 w
  ·cases h
 | convert src dst x => exact wrap (zat1 hR (hρ x) h)
 | makeFunc fn first captured =>
  cases fn with
  | func f =>
   simp only [lop] at h
   cases h
   refine wrap ⟨_, rfl, .func _ _ _ _ _ (by simp) (by simp) (fun i => ?_) (fun i => ?_)⟩
   ·by_cases hi : i < first.size
    ·simp [Array.getD_eq_getD_getElem?, hi]; exact hρ _
    ·simp [Array.getD_eq_getD_getElem?, hi]; exact .undef _ _
   ·by_cases hi : i < captured.size
    ·simp [Array.getD_eq_getD_getElem?, hi]; exact hρ _
    ·simp [Array.getD_eq_getD_getElem?, hi]; exact .undef _ _
  | _ => simp [lop] at h
 | slice t x lo hi mx =>
  refine wrap (zast (hρ x) ?_ ?_ ?_ h)
  ·cases lo <;> simp [hρ]
  ·cases hi <;> simp [hρ]
  ·cases mx <;> simp
 | fieldAddr t x i =>
  simp only [lop] at h
  have hx := hρ x
  split at h
  ·rename_i a ha
   rw [ha] at hx
   simp only [Option.bind_eq_some_iff] at h
   obtain ⟨⟨po, ps⟩, hp, h⟩ := h
   obtain ⟨fs, f, hfs, hf, e1, e2⟩ := zanr hp
   split at h
   ·rename_i hc
    cases h
    refine wrap ?_
    generalize ρ' x = x' at hx ⊢
    cases hx with
    | ptr i off m hm =>
     refine ⟨.pointer (some ⟨m.blk, m.base + (off + po), none⟩), ?_, .ptr _ _ _ hm⟩
     simp only at e1 e2
     subst e1
     simp [Instr.fieldAt, run_underlying hfs, hf, Instr.sureAddr, zal8 (by rw [e2]; exact hc.1), add_at, Nat.add_assoc]
   ·cases h
  ·cases h
 | field t x i =>
  simp only [lop] at h
  have hx := hρ x
  split at h
  ·rename_i cs hcs
   rw [hcs] at hx
   simp only [Option.bind_eq_some_iff] at h
   obtain ⟨⟨po, ps⟩, hp, u, hu, h⟩ := h
   obtain ⟨fs, f, hfs, hf, e1, e2⟩ := zanr hp
   have hfu : f.type = u := by
    simp only [ftype, Option.bind_eq_some_iff, Option.map_eq_some_iff] at hu
    obtain ⟨fs', hfs', f', hf', e⟩ := hu
    have := zahj hfs'
    rw [hfs] at this
    cases this
    rw [hf] at hf'; cases hf'; exact e
   simp only at e1
   subst e1 hfu
   refine wrap ?_
   generalize ρ' x = x' at hx ⊢
   cases hx with
   | agg _ cs' h1 h0 h2 =>
    obtain ⟨v', g1, g2⟩ := zanq (P := P) (w := w) (.of_array h1 h2) h0 h
    exact ⟨v', by simp [Instr.field, run_underlying hfs, hf, asAgg, g1], g2⟩
  ·cases h
 | indexAddr t x i => exact wrap (zakx (hρ x) (hρ i) h)
 | index t x i => exact wrap (zasa (hρ x) (hρ i) h)
 | extract x i =>
  simp only [lop] at h
  have hx := hρ x
  split at h
  ·rename_i vs hvs
   rw [hvs] at hx
   refine wrap ?_
   generalize ρ' x = x' at hx ⊢
   cases hx with
   | junk v => simp at h
   | tuple _ vs' h1 h2 =>
    obtain ⟨v', g1, g2⟩ := (VRs.of_array h1 h2).get? (by simpa using h)
    have : vs'[i]? = some v' := by simpa using g1
    exact ⟨v', by simp [Instr.extract, this], g2⟩
  ·cases h
 | call c =>
  simp only [lop] at h
  split at h
  ·rename_i t x hb ht hx
   have e1 := zal1 ht
   have e2 := zal1 hx
   obtain ⟨v', g1, g2⟩ := zax7 (ty := type) hR (hρ x) h
   refine ⟨v', ?_, g2⟩
   simp [execOp, resolve, hb, invoke, builtin, e1, e2, g1]
  ·rename_i x y hb hx
   have e2 := zag3 hx
   have h1 := hρ x
   have h2 := hρ y
   unfold amin at h
   split at h
   ·rename_i k a l b ha hb2
    split at h
    ·rename_i hk
     subst hk
     cases h
     rw [ha] at h1
     rw [hb2] at h2
     have i1 := h1.int_inv
     have i2 := h2.int_inv
     refine ⟨.int k (if b < a then b else a), ?_, .int _ _⟩
     simp [execOp, resolve, hb, invoke, builtin, e2, i1, i2, Builtin.min_, Builtin.min2]
    ·cases h
   ·cases h
  ·rename_i x y hb hx
   have e2 := zag3 hx
   have h1 := hρ x
   have h2 := hρ y
   unfold amax at h
   split at h
   ·rename_i k a l b ha hb2
    split at h
    ·rename_i hk
     subst hk
     cases h
     rw [ha] at h1
     rw [hb2] at h2
     have i1 := h1.int_inv
     have i2 := h2.int_inv
     refine ⟨.int k (if a < b then b else a), ?_, .int _ _⟩
     simp [execOp, resolve, hb, invoke, builtin, e2, i1, i2, Builtin.max_, Builtin.max2]
    ·cases h
   ·cases h
  ·rename_i x hb hx
   have e2 := zal1 hx
   have h1 := hρ x
   unfold adata at h
   split at h
   ·rename_i ha
    cases h
    rw [ha] at h1
    have i1 : ρ' x = .slice none 0 0 := by generalize ρ' x = x' at h1; cases h1; rfl
    have := Lib.run_unsafeSliceData_nil (P := P) (w := w) c.argTypes type 0 0
    exact ⟨.pointer none, by simp [execOp, resolve, hb, invoke, builtin, e2, i1, this], .ptr0⟩
   ·rename_i a n sz ha
    cases h
    rw [ha] at h1
    generalize hx' : ρ' x = x' at h1
    cases h1 with
    | slice i off _ _ cap m hm g1 g2 =>
     refine ⟨.pointer (some ⟨m.blk, m.base + off, none⟩), ?_, .ptr i off m hm⟩
     have := Lib.run_unsafeSliceData_row (P := P) (w := w) c.argTypes type ⟨m.blk, m.base + off, none⟩ (n + 1) cap (by omega)
     simp [execOp, resolve, hb, invoke, builtin, e2, hx', this]
   ·cases h
  ·cases h
 | _ => simp [lop] at h
end
end Go.Proofs.YtliemjbafgnnbaaGreatDoor.Abs
