/- Every heavy operation, and every operation. -/
import Derived.Test.YtmdpggecelheoaaDoorPA6
set_option linter.unusedVariables false
set_option linter.unusedSimpArgs false
namespace Go.Proofs.YtmdpggecelheoaaDoor.Abs
open Go Go.RowKit

section
variable {P : Program} {B : Nat} {w0 : Base} {w : World} {φ : Plan} {H : Hp}

/-- What an operation comes to: a value (or none), or a call. -/
def Told (P : Program) (B : Nat) (w0 : Base) (w : World) (φ : Plan) (s : Result Next) : Res → Prop
  | .val v H' => ∃ ψ v' w' nx, φ.le ψ ∧ s = .ok nx w' ∧ (nx = .value v' ∨ nx = .skip ∧ v' = undef) ∧ VR ψ v v' ∧ Rel B w0 ψ H' w'
  | .enter f args => ∃ args' : List Value, s = .ok (.enter f args'.toArray) w ∧ VRs φ args args'

theorem array_of_list {α : Type} {x : Array α} {l : List α} (h : x.toList = l) : x = l.toArray := by cases x; simp_all
theorem modify_push {α : Type} (a : Array α) (x : α) (f : α → α) : (a.push x).modify a.size f = a.push (f x) := by
  apply Array.ext_getElem?
  intro i
  rw [Array.getElem?_modify, Array.getElem?_push, Array.getElem?_push]
  by_cases h : i = a.size
  · simp [h]
  · rw [if_neg (fun e => h e.symm), if_neg h, if_neg h]
theorem box_told (hR : Rel B w0 φ H w) {t : TypeId} {v v' : Value} (hv : VR φ v v') (ht : isTup v = false) :
    ∃ ψ w', φ.le ψ ∧ (Instr.box t v').run P w = .ok (.pointer (some ⟨w.heap.size, 0, none⟩)) w' ∧ VR ψ (.pointer (some ⟨H.next, 0, none⟩)) (.pointer (some ⟨w.heap.size, 0, none⟩)) ∧ Rel B w0 ψ (H.push (.cells true t v.cells.toList)) w' := by
  have hc := hv.cells (by intro e; subst e; simp [isTup] at ht)
  have h1 := hv.one ht
  have hl := hc.1
  obtain ⟨g1, g2⟩ := hR.push (w' := w.alloc (.cells v'.cells t)) (e := t) (e' := t) (c := v.cells.toList) (fr := (0, 0)) (stop := v'.cells.size) rfl rfl rfl rfl
    (by rw [List.take_of_length_le (by omega)]; exact hc) (by intro u hu; exact h1 u (List.mem_of_mem_take hu)) (by simpa using Nat.le_of_eq hl) (Nat.le_refl _) (by intro off _; simp)
  refine ⟨_, _, g1, by simp [Instr.box, newVar, newRow], ?_, g2⟩
  have := VR.ptr (φ := φ.set H.next ⟨w.heap.size, 0, v'.cells.size⟩) H.next 0 _ (Plan.set_same ..)
  simpa using this

theorem hop_sound (hR : Rel B w0 φ H w) {ρ ρ' : Operand → Value} (hρ : ∀ x, VR φ (ρ x) (ρ' x)) {o : Oper} {r : Res} (h : hop P ρ H o.op = some r) :
    Told P B w0 w φ ((execOp ρ' o).run P w) r := by
  obtain ⟨dst, op, type, pos, after, guard⟩ := o
  simp only at h
  cases op with
  | alloc t =>
    simp only [hop, Option.bind_eq_some_iff] at h
    obtain ⟨z, hz, h⟩ := h
    split at h
    · rename_i hf
      cases h
      simp only [zeroT, Option.bind_eq_some_iff] at hz
      obtain ⟨inf, hinf, hz⟩ := hz
      obtain ⟨ψ, w', g1, g2, g3, g4⟩ := box_told (P := P) (t := t) hR (flat_refl 8 z hf) (by cases z <;> simp_all [flat, isTup])
      refine ⟨ψ, _, w', _, g1, ?_, .inl rfl, g3, g4⟩
      simp only [Instr.box, Sem.run_bind] at g2
      simp [execOp, Instr.alloc, zeroValue, run_typeInfo (P := P) (w := w) hinf, hz]
      simpa [newVar, newRow] using g2
    · cases h
  | box t x =>
    simp only [hop] at h
    split at h
    · cases h
    · rename_i ht
      cases h
      obtain ⟨ψ, w', g1, g2, g3, g4⟩ := box_told (P := P) (t := t) hR (hρ x) (by simpa using ht)
      exact ⟨ψ, _, w', _, g1, by simp [execOp, g2], .inl rfl, g3, g4⟩
  | buildSlice t len parts =>
    simp only [hop] at h
    split at h
    · rename_i elem ht
      split at h
      · rename_i inf hinf
        simp only [Option.bind_eq_some_iff] at h
        obtain ⟨z, hz, h⟩ := h
        split at h
        · rename_i hc
          obtain ⟨hle, hzs, hf, hp⟩ := hc
          simp only [Option.map_eq_some_iff] at h
          obtain ⟨cs, hfill, rfl⟩ := h
          have hzr := flat_refl (φ := φ) 8 z hf
          have hzt : isTup z = false := by cases z <;> simp_all [flat, isTup]
          have hzc := hzr.cells (by intro e; subst e; simp [isTup] at hzt)
          have hz1 := hzr.one hzt
          have hfill' := afill_fill _ _ _ hfill
          have hrep : VRs φ (List.replicate len z.cells.toList).flatten (List.replicate len z.cells.toList).flatten ∧ ∀ u ∈ (List.replicate len z.cells.toList).flatten, u.oneCell' = true := by
            refine ⟨.refl_of fun v hv => ?_, fun u hu => ?_⟩
            · obtain ⟨l, hl, hvl⟩ := List.mem_flatten.1 hv
              rw [List.eq_of_mem_replicate hl] at hvl
              obtain ⟨j, hj, e⟩ := List.getElem_of_mem hvl
              have := hzc.2 j
              rw [List.getD_eq_getElem?_getD, List.getElem?_eq_getElem hj, Option.getD_some, e] at this
              exact this
            · obtain ⟨l, hl, hvl⟩ := List.mem_flatten.1 hu
              rw [List.eq_of_mem_replicate hl] at hvl
              exact hz1 u hvl
          obtain ⟨cs', g1, g2, g3⟩ := fill_sound (φ := φ) (parts.toList.map fun p => (p.1, ρ p.2)) (parts.toList.map fun p => (p.1, ρ' p.2)) _ ((List.replicate len z.cells.toList).flatten).toArray cs.toArray (by simp) (fun i x y hx hy => by
            simp only [List.getElem?_map, Option.map_eq_some_iff] at hx hy
            obtain ⟨p, hp0, rfl⟩ := hx
            obtain ⟨p', hp', rfl⟩ := hy
            rw [hp0] at hp'; cases hp'
            exact ⟨rfl, hρ _, by have := List.all_eq_true.1 hp _ (List.mem_of_getElem? hp0); simpa using this⟩) (by simpa using hrep.1) (by simpa using hrep.2) hfill'
          have hl := g2.1
          simp only [Array.length_toList] at hl
          have hcl : cs.length = len * inf.size := by
            have key : ∀ (pl : Nat → Option (Nat × Nat)) (ps : List (Nat × Value)) (c cs : List Value), afill pl c ps = some cs → cs.length = c.length := by
              intro pl ps
              induction ps with
              | nil => intro c cs h; simp only [afill] at h; cases h; rfl
              | cons x ps ih =>
                intro c cs h
                simp only [afill, Option.bind_eq_some_iff] at h
                obtain ⟨y, _, h⟩ := h
                split at h
                · rw [ih _ _ h, setAll_length]
                · cases h
            rw [key _ _ _ _ hfill]
            simp [List.length_flatten, hzs]
          have hcs : cs'.size = len * inf.size := by rw [← hcl]; simpa using hl.symm
          obtain ⟨f1, f2⟩ := hR.push (w' := w.alloc (.cells cs' elem)) (e := elem) (e' := elem) (c := cs) (fr := (0, 0)) (stop := cs'.size) rfl rfl rfl rfl
            (by rw [List.take_of_length_le (by simp; omega)]; simpa using g2) (by intro u hu; exact g3 u (List.mem_of_mem_take hu)) (by omega) (Nat.le_refl _) (by intro off _; simp)
          refine ⟨_, .slice (some ⟨w.heap.size, 0, none⟩) len len, _, _, f1, ?_, .inl rfl, ?_, f2⟩
          · have hn : ¬ (16777216 < len * inf.size) := by omega
            have hmap : (Array.map (fun x => (x.fst, ρ' x.snd)) parts).toList = parts.toList.map fun p => (p.1, ρ' p.2) := by simp
            have hrc := rep_cells (n := len) (k := inf.size) hzs
            have hrc' : ((Array.range (len * inf.size)).map fun i => (if len * inf.size = 0 then (#[] : Array Value) else z.cells)[i % (if len * inf.size = 0 then (#[] : Array Value) else z.cells).size]!) = ((List.replicate len z.cells.toList).flatten).toArray := by
              apply Array.ext'
              rw [hrc]
            rw [← hrc'] at g1
            by_cases h0 : len * inf.size = 0
            · have n0 : ¬ (16777216 < 0) := by omega
              simp only [execOp, Instr.buildSlice, Sem.run_bind, run_underlying ht, Result.andThen_ok, sizeOf, run_typeInfo (P := P) (w := w) hinf, Sem.run_pure, gt_iff_lt, show (2 : Nat) ^ 24 = 16777216 from rfl, h0, if_true, hmap] at g1 ⊢
              simp only [n0, if_false, Sem.run_bind, Sem.run_pure, Result.andThen_ok, g1]
              simp [newRow]
            · rw [if_neg h0] at g1
              simp only [execOp, Instr.buildSlice, Sem.run_bind, run_underlying ht, Result.andThen_ok, sizeOf, run_typeInfo (P := P) (w := w) hinf, Sem.run_pure, gt_iff_lt, show (2 : Nat) ^ 24 = 16777216 from rfl, hn, if_false, h0, zeroValue, hz, hmap, g1]
              simp [newRow]
          · have := VR.slice (φ := φ.set H.next ⟨w.heap.size, 0, cs'.size⟩) H.next 0 len inf.size len ⟨w.heap.size, 0, cs'.size⟩ (Plan.set_same ..) (Nat.le_refl _) (by simp [hcs])
            simpa using this
        · cases h
      · cases h
    · cases h
  | store t a x =>
    simp only [hop, Option.map_eq_some_iff] at h
    obtain ⟨H', h, rfl⟩ := h
    unfold astore at h
    have ha := hρ a
    split at h
    · rename_i ad had
      rw [had] at ha
      split at h
      · rename_i e c hg
        split at h
        · rename_i hc
          obtain ⟨c1, c2, c3, c4⟩ := hc
          cases h
          have hx := hρ x
          have hxc := hx.cells (by intro e; rw [e] at c2; simp [isTup] at c2)
          have hx1 := hx.one c2
          have hsz : (ρ' x).cells.size = (ρ x).cells.size := by simpa using hxc.1.symm
          generalize hA : ρ' a = a' at ha
          cases ha with
          | ptr i off m hm =>
            simp only at hg c3
            obtain ⟨cur, e', fr, hh, s1, s2⟩ := hR.store (P := P) hg hm (off := off) (vs := (ρ x).cells.toList) (vs' := (ρ' x).cells.toList) (by simpa using c3) hxc hx1
            refine ⟨φ, undef, _, .skip, Plan.le_refl φ, ?_, .inr ⟨rfl, rfl⟩, .undef _ _, s2⟩
            simp only [execOp, hA, Instr.storeAt, Instr.sureAddr, storeVar, Sem.run_bind, Sem.run_pure, Result.andThen_ok, sizeOf_run c1, hsz, ne_eq, not_true_eq_false, if_false, s1]
        · cases h
      · cases h
    · cases h
  | convert src dst x =>
    simp only [hop] at h
    split at h
    · rename_i e s hs hd hx
      have hxr := hρ x
      rw [hx] at hxr
      split at h
      · rename_i he
        split at h
        · rename_i h1
          cases h
          have hx' : ρ' x = .string s := by generalize ρ' x = x' at hxr; cases hxr; rfl
          have hcl : (s.data.toList.map fun (b : UInt8) => (Value.int .u8 b.toNat)).length = s.size := by rw [List.length_map, Array.length_toList]; rfl
          generalize hnc : (Question.appendCap s.size 0 e).cut (w.tape w.drawn (.appendCap s.size 0 e)) = nc
          have hnc' : s.size ≤ nc := by rw [← hnc]; simp [Question.cut]
          have hsz : ((s.data.map fun (b : UInt8) => (Value.int .u8 b.toNat)) ++ Array.replicate (nc - s.size) (Value.int .u8 0)).size = nc := by
            simp only [Array.size_append, Array.size_map, Array.size_replicate]
            show s.size + _ = _
            omega
          have htl : ((s.data.map fun (b : UInt8) => (Value.int .u8 b.toNat)) ++ Array.replicate (nc - s.size) (Value.int .u8 0)).toList.take (s.data.toList.map fun (b : UInt8) => (Value.int .u8 b.toNat)).length = s.data.toList.map fun (b : UInt8) => (Value.int .u8 b.toNat) := by
            simp
          let C := (s.data.map fun (b : UInt8) => (Value.int .u8 b.toNat)) ++ Array.replicate (nc - s.size) (Value.int .u8 0)
          obtain ⟨f1, f2⟩ := hR.push (w' := { w with drawn := w.drawn + 1, heap := w.heap.push (.cells C e (C.size, C.size + 1)) }) (e := e) (e' := e) (c := s.data.toList.map fun (b : UInt8) => (Value.int .u8 b.toNat)) (fr := (C.size, C.size + 1)) (stop := C.size) rfl rfl rfl rfl
            (by rw [htl]; exact .map_same _ _ fun (b : UInt8) => .int _ _) (by rw [htl]; intro u hu; obtain ⟨b, _, rfl⟩ := List.mem_map.1 hu; rfl) (by rw [hcl]; show _ ≤ C.size; rw [hsz]; exact hnc') (Nat.le_refl _) (by intro off ho; simp; omega)
          refine ⟨_, .slice (some ⟨w.heap.size, 0, none⟩) s.size nc, _, _, f1, ?_, .inl rfl, ?_, f2⟩
          · have hf : (Question.appendCap s.size 0 e).forced = false := rfl
            simp only [execOp, hx', convert, Sem.run_bind, run_underlying hs, run_underlying hd, run_underlying he, Result.andThen_ok, Conv.stringToBytes, run_choose, hf, Bool.false_eq_true, if_false, hnc, newRow, run_newObj, Sem.run_pure, markStringish, run_shape, World.shape?]
            have hC : C.size = s.size + (nc - s.size) := by rw [hsz]; omega
            rw [hC]
            simp [World.freeze]
            rw [modify_push]
            simp
            rfl
          · have := VR.slice (φ := φ.set H.next ⟨w.heap.size, 0, C.size⟩) H.next 0 s.size 1 nc ⟨w.heap.size, 0, C.size⟩ (Plan.set_same ..) hnc' (by show 0 + 0 + nc * 1 = C.size; rw [hsz]; omega)
            simpa using this
        · cases h
      · cases h
    · cases h
  | call c =>
    simp only [hop] at h
    split at h
    · rename_i hcal
      split at h
      · rename_i st xt s x ht hx
        simp only [Option.map_eq_some_iff] at h
        obtain ⟨⟨v, H'⟩, h, rfl⟩ := h
        obtain ⟨ψ, v', w', g1, g2, g3, g4⟩ := append_sound (P := P) (ty := type) hR (hρ s) (hρ x) h
        refine ⟨ψ, v', w', _, g1, ?_, .inl rfl, g3, g4⟩
        have e1 := array_two ht
        have e2 := array_two hx
        simp [execOp, resolve, hcal, invoke, builtin, e1, e2, g2]
      · cases h
    · rename_i f hcal
      have hf := hρ f
      split at h
      · rename_i g first captured hfv
        rw [hfv] at hf
        split at h
        · rename_i hok
          cases h
          unfold funcOk at hok
          split at hok
          · rename_i fn hfn
            simp only [Bool.and_eq_true, bne_iff_ne, ne_eq] at hok
            obtain ⟨hn, hb⟩ := hok
            have hb' : fn.body.isNone = false := by cases hbb : fn.body <;> simp_all
            generalize hf' : ρ' f = f' at hf
            cases hf with
            | func _ _ first' _ captured' h1 h2 h3 h4 =>
              refine ⟨first'.toList ++ (c.args.toList.map ρ') ++ captured'.toList, ?_, ((VRs.of_array h1 h3).append ?_).append (VRs.of_array h2 h4)⟩
              · have hn' : (fn.name == "runtime.NumGoroutine") = false := by simpa using hn
                simp only [execOp, Sem.run_bind, resolve, hcal, hf', Deferred.ofValue, Sem.run_pure, Result.andThen_ok, invoke, callFunc, run_program, hfn, hn', hb', Bool.false_eq_true, if_false]
                congr 2
                apply Array.ext'
                simp
              · refine .of_forall (by simp) fun i u u' hu hu' => ?_
                simp only [List.getElem?_map, Option.map_eq_some_iff] at hu hu'
                obtain ⟨a, ha, rfl⟩ := hu
                obtain ⟨a', ha', rfl⟩ := hu'
                rw [ha] at ha'; cases ha'
                exact hρ a
          · cases hok
        · cases h
      · cases h
    · cases h
  | _ => simp [hop] at h

/-- Every operation. -/
theorem aop_sound (hR : Rel B w0 φ H w) {ρ ρ' : Operand → Value} (hρ : ∀ x, VR φ (ρ x) (ρ' x)) {o : Oper} {r : Res} (h : aop P ρ H o.op = some r) :
    Told P B w0 w φ ((execOp ρ' o).run P w) r := by
  unfold aop at h
  split at h
  · simp only [Option.map_eq_some_iff] at h
    obtain ⟨v, h, rfl⟩ := h
    obtain ⟨v', g1, g2⟩ := lop_sound hR hρ h
    exact ⟨φ, v', w, _, Plan.le_refl φ, g1, .inl rfl, g2, hR⟩
  · exact hop_sound hR hρ h
end
end Go.Proofs.YtmdpggecelheoaaDoor.Abs
