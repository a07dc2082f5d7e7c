/- Regions whose order is open, code and calls, over values with their slices: the plain evaluator comes to what is told. -/
import Derived.Test.YtmdpggecelheoaaDoorPW18
set_option linter.unusedVariables false
set_option linter.unusedSimpArgs false
namespace Go.Proofs.YtmdpggecelheoaaDoor.Abs
open Go

section
variable {P : Program} {X : Outer} {K : VCall} {n : List Blk} {R0 R R1 Rb : Rl} {S S0 : VH} {e ce es : Env} {ops : Array Oper}
theorem lval_true {o : Oper} {e : Env} {H : Hp} (hw : awanted ops o e = some true) : lval P ops o e H = lop P (aeval e) H o.op := by simp [lval, hw]
theorem lval_false {o : Oper} {e : Env} {H : Hp} (hw : awanted ops o e = some false) : lval P ops o e H = some NR := by simp [lval, hw]
theorem met_of {ob : List VObl} {Hs : List (List Nat × Bool)} {heaps : List Hp} {b' : Obl} (hl : heaps.length = Hs.length + 1) (h : RecOk P ops ob Hs.reverse heaps R b') (hall : ob.all (vspan Hs.reverse) = true) : Met P ops heaps b' := by
  obtain ⟨q, hq, h1, h⟩ := h
  rw [List.all_eq_true] at hall
  have hsp := hall q hq
  unfold vspan at hsp
  rw [List.all_eq_true] at hsp
  intro k hk
  rw [← h1] at hk
  have hk2 := hsp k hk
  simp only [Bool.and_eq_true, decide_eq_true_eq, List.all_eq_true, List.mem_range, Bool.or_eq_true, Bool.not_eq_true', Bool.and_eq_false_iff, decide_eq_false_iff_not] at hk2
  obtain ⟨hk3, hk4⟩ := hk2
  have hkl : k < heaps.length := by simp at hk3; omega
  rw [List.getElem?_eq_getElem hkl]
  simp only [With_some]
  rcases h with h | ⟨hp, t, a, ad, h2, h3, h4, h5, h6, h7⟩
  · exact h _
  · rw [lval_true h3, h2]
    simp only [lop]
    rw [h4]
    refine h6 k _ hk (List.getElem?_eq_getElem hkl) fun j hj hjk s hs => ?_
    have hjl := (List.getElem?_eq_some_iff.1 hs).1
    rcases hk4 j hjl with h | h
    · exfalso
      have := Nat.min_le_right k q.pos
      have := Nat.le_max_left k q.pos
      omega
    · rw [hs] at h
      exact h
theorem open_ok (hK : KOk P X K) {sd : Bool} (hb : HRel Rb S0.all) : ∀ (l : List Oper) (T : List (List Nat)) (es e : Env) (S : VH) (Hs : List (List Nat × Bool)) (ob : List VObl) (r : Env × VH), vrunE P K ops sd S0 T l es e S Hs ob = some r →
    ∀ (R : Rl) (ce : Env) (Hs' : List Hp) (ob' : List Obl), VSta n R0 R S e ce → Shd Rb sd es ce Hs.reverse (R.H :: Hs').reverse R → (∀ b' ∈ ob', RecOk P ops ob Hs.reverse (R.H :: Hs').reverse R b') →
    DE2 P X ops T l ce R.H Hs' ob' fun ce' H' => ∃ R1 : Rl, R1.H = H' ∧ VSta n R0 R1 r.2 r.1 ce' := by
  intro l
  induction l with
  | nil =>
    intro T es e S Hs ob r h R ce Hs' ob' hs hsh hob
    have h' : (if ob.all (vspan Hs.reverse) then some (e, S) else none) = some r := by
      cases T <;> simpa only [vrunE] using h
    split at h'
    · rename_i hall
      cases h'
      have : (nextsOk (R.H :: Hs').reverse = true ∧ ∀ b ∈ ob', Met P ops (R.H :: Hs').reverse b) ∧ ∃ R1 : Rl, R1.H = R.H ∧ VSta n R0 R1 S e ce :=
        ⟨⟨hsh.nx, fun b' hb' => met_of (by have := hsh.len; simpa using this) (hob b' hb') hall⟩, R, rfl, hs⟩
      cases T <;> exact this
    · cases h'
  | cons o rest ih =>
    intro T es e S Hs ob r h R ce Hs' ob' hs hsh hob
    cases T with
    | nil => simp [vrunE] at h
    | cons t T =>
      simp only [vrunE, Option.bind_eq_some_iff] at h
      obtain ⟨w, hw, nb, hnb, r1, h1, h2⟩ := h
      have hcw := wanted_ok (ops := ops) hs.env hw
      show Step P X ops o ce R.H _
      have hlen : (R.H :: Hs').reverse.length = Hs.reverse.length + 1 := hsh.len
      -- what the operation gives is known when it is light
      by_cases hl : light P o.op = true
      · -- light
        have hstep := step_ok hK hs h1
        rw [Step_lval hl] at hstep ⊢
        cases hv : lval P ops o ce R.H with
        | none => rw [hv] at hstep; exact hstep.elim
        | some cu =>
          rw [hv] at hstep
          obtain ⟨R1, q1, q2, q3, q4⟩ := hstep
          obtain rfl := q4 hl
          rw [With_some]
          rw [if_pos hl]
          rw [if_pos hl] at h2
          have hshade : sd = true → Rd Rb (vshade P o es S0 Hs) cu := fun hsd => shade_ok hb hsh hsd fun _ hg => by
            have : awanted ops o ce = some true := by unfold awanted; rw [hg]
            rw [lval_true this] at hv
            exact hv
          refine ih T _ _ _ _ _ r h2 R1 _ _ _ q2 (hsh.light o.dst cu _ hshade) ?_
          intro b' hb'
          by_cases ht : t = []
          · rw [if_pos ht] at hb' hnb
            cases hnb
            simpa using hob b' hb'
          · rw [if_neg ht] at hb' hnb
            rcases List.mem_cons.1 hb' with rfl | hb'
            · by_cases hwf : w = false
              · rw [if_pos hwf] at hnb
                cases hnb
                subst hwf
                rw [lval_false hcw] at hv
                cases hv
                exact ⟨⟨t, Hs.length, .ro⟩, by simp, rfl, .inl fun H => lval_false hcw⟩
              · rw [if_neg hwf] at hnb
                have hwt : w = true := by simpa using hwf
                subst hwt
                unfold vobl at hnb
                split at hnb
                · rename_i ty a hop
                  rw [Option.bind_eq_some_iff] at hnb
                  obtain ⟨d, hd, hnb⟩ := hnb
                  split at hnb
                  · rename_i hear
                    cases hnb
                    obtain ⟨ad, had, hdep⟩ := depOf_ok hs.hr (rd_eval hs.env a) hd
                    have hcur : aload P ty (.pointer (some ad)) R1.H = some cu := by
                      rw [lval_true hcw, hop] at hv
                      simp only [lop] at hv
                      rw [had] at hv
                      exact hv
                    refine ⟨⟨t, Hs.length, d⟩, by simp, rfl, .inr ⟨by simp, ty, a, ad, hop, hcw, had, hdep, fun k H hk hH _ => ?_, fun _ => hcur⟩⟩
                    have hkl : k < Hs.length + 1 := by
                      have := (List.getElem?_eq_some_iff.1 hH).1
                      rw [hlen] at this
                      simpa using this
                    by_cases hkk : k = Hs.length
                    · subst hkk
                      have := hsh.last
                      rw [List.length_reverse, hH] at this
                      cases this
                      exact hcur
                    · have hklt : k < Hs.length := by omega
                      simp only [Bool.or_eq_true, Bool.and_eq_true, Bool.not_eq_true', List.all_eq_true, decide_eq_true_eq] at hear
                      rcases hear with ⟨hsd, hng⟩ | hear
                      · -- reckoned at the beginning, too
                        have hsv : ∃ v0 d0, vlop P (aeval es) S0 o.op = some v0 ∧ depOf (aeval es a) = some d0 ∧ Hs.all (depStep d0) = true := by
                          have hng2 : isGone (if light P o.op = true ∧ (none : Option (Nat × Bool)) = none then
                              match vlop P (aeval es) S0 o.op with
                              | some v => (match o.op with
                                | .load _ a => (match depOf (aeval es a) with | some d => if Hs.all (depStep d) then v else gone | none => gone)
                                | .convert .. => gone
                                | _ => v)
                              | none => gone
                            else gone) = false := hng
                          clear hng
                          have hng := hng2
                          clear hng2
                          split at hng
                          · split at hng
                            · rename_i v0 hv0
                              rw [hop] at hng
                              simp only at hng
                              split at hng
                              · rename_i d0 hd0
                                split at hng
                                · rename_i hall; exact ⟨v0, d0, hv0, hd0, hall⟩
                                · cases hng
                              · cases hng
                            · cases hng
                          · cases hng
                        obtain ⟨v0, d0, hv0, hd0, hall⟩ := hsv
                        obtain ⟨ad', had', hdep'⟩ := depOf_ok hb (rd_eval (hsh.es hsd) a) hd0
                        rw [had] at had'
                        cases had'
                        obtain ⟨g1, g2⟩ := hsh.same d0 ad.block hdep' fun s hs => by rw [List.all_eq_true] at hall; exact hall s (List.mem_reverse.1 hs)
                        rw [aload_get ((g1 k H hH).trans g2.symm)]
                        exact hcur
                      · have := hear k hk; omega
                  · cases hnb
                · rename_i s2 t2 x hop
                  split at hnb
                  · rename_i hf
                    cases hnb
                    refine ⟨⟨t, Hs.length, .ro⟩, by simp, rfl, .inl fun H => ?_⟩
                    have hfl := (rd_eval hs.env x).flat_eq 8 _ _ hf
                    rw [lval_true hcw, hop] at hv ⊢
                    simp only [lop] at hv ⊢
                    rw [hfl] at hv ⊢
                    rw [aconv_H hf H R1.H]
                    exact hv
                  · cases hnb
                · rename_i c hop
                  cases hnb
                  refine ⟨⟨t, Hs.length, .ro⟩, by simp, rfl, .inl fun H => ?_⟩
                  -- len, min, max tell the same in any heap
                  rw [lval_true hcw, hop] at hv ⊢
                  have hvl : ∃ v, vlop P (aeval e) S (.call c) = some v := by
                    unfold vstepG at h1
                    rw [hw] at h1
                    simp only [Option.bind_some, if_true, Option.map_eq_some_iff] at h1
                    obtain ⟨r', h1, _⟩ := h1
                    unfold vstepOp at h1
                    rw [if_pos hl, Option.map_eq_some_iff] at h1
                    obtain ⟨v, hv, _⟩ := h1
                    rw [hop] at hv
                    exact ⟨v, hv⟩
                  obtain ⟨v, hvv⟩ := hvl
                  simp only [vlop] at hvv
                  simp only [lop] at hv ⊢
                  split at hvv
                  · rename_i ty x e1 e2 e3
                    obtain ⟨g, _⟩ := len_ok (rd_eval hs.env x) hvv
                    simp only [e1, e2, e3] at hv ⊢
                    rw [g] at hv ⊢
                    exact hv
                  · rename_i x y e1 e2
                    simp only [e1, e2] at hv ⊢
                    exact hv
                  · rename_i x y e1 e2
                    simp only [e1, e2] at hv ⊢
                    exact hv
                  · cases hvv
                · cases hnb
            · exact (hob b' hb').more
      · -- heavy
        refine Step_mono ?_ (step_ok hK hs h1)
        rintro cu H' ⟨R1, q1, q2, q3, _⟩
        subst q1
        rw [if_neg hl]
        rw [if_neg hl] at h2
        have hgone : vshade P o es S0 Hs = gone := by unfold vshade; rw [if_neg (fun h => hl h.1)]
        have hsh' : Shd Rb sd (if sd then eput es o.dst (vshade P o es S0 Hs) else es) (eput ce o.dst cu) ((r1.ws, r1.kf) :: Hs).reverse (R1.H :: R.H :: Hs').reverse R1 := by
          have := Shd.push (hs := Hs'.reverse) (R1 := R1) (s := (r1.ws, r1.kf)) (by rw [List.reverse_cons] at hsh; exact hsh) hs.hr q3 o.dst cu (vshade P o es S0 Hs) (fun _ => by rw [hgone]; exact .stale 2 _ (by decide))
          simpa only [List.reverse_cons] using this
        refine ih T _ _ _ _ _ r h2 R1 _ _ _ q2 hsh' ?_
        intro b' hb'
        have h3 := hob b' hb'
        rw [List.reverse_cons] at h3
        have hl3 : (Hs'.reverse ++ [R.H]).length = Hs.reverse.length + 1 := by rw [← List.reverse_cons]; exact hlen
        have := (h3.push hl3 hs.hr (R1 := R1) (s := (r1.ws, r1.kf)) q3).more (ob2 := nb)
        simpa only [List.reverse_cons] using this
theorem DE_of_DE2 : ∀ (l : List Oper) (T : List (List Nat)) (e : Env) (H : Hp) (Hs : List Hp) (ob : List Obl) (Q : Env → Hp → Prop), DE2 P X ops T l e H Hs ob Q → DE P X ops T l e H Hs ob Q
  | [], T, e, H, Hs, ob, Q, h => by cases T <;> exact ⟨h.1.2, h.2⟩
  | o :: rest, [], e, H, Hs, ob, Q, h => h.elim
  | o :: rest, t :: T, e, H, Hs, ob, Q, h => by
    refine Step_mono ?_ h
    intro v H' h
    split at h
    · rename_i hl; rw [if_pos hl]; exact DE_of_DE2 rest T _ _ _ _ _ h
    · rename_i hl; rw [if_neg hl]; exact DE_of_DE2 rest T _ _ _ _ _ h
theorem region_ok (hK : KOk P X K) (hs : VSta n R0 R S e ce) {id : Nat} {draw : Bool} {r : Env × VH} (h : vrunR P K ops draw e S = some r) :
    Dc P X (.region id ops draw) ce R.H fun x ce' H' => x = .normal ∧ ∃ R1 : Rl, R1.H = H' ∧ VSta n R0 R1 r.2 r.1 ce' := by
  unfold vrunR at h
  have hsh : ∀ sd, Shd R sd e ce ([] : List (List Nat × Bool)).reverse (R.H :: ([] : List Hp)).reverse R := fun sd => ⟨fun _ => hs.env, rfl, rfl, fun _ _ h => h, fun d b hd _ => ⟨fun k H hk => by
    have : k = 0 := by
      have := (List.getElem?_eq_some_iff.1 hk).1
      simpa using this
    subst this
    simp only [List.reverse_cons, List.reverse_nil, List.nil_append, List.getElem?_cons_zero, Option.some.injEq] at hk
    rw [← hk], rfl⟩, rfl⟩
  cases draw with
  | false =>
    simp only [Bool.false_eq_true, if_false] at h
    exact Dc_region (DR_mono _ _ _ _ _ (fun _ _ h => ⟨rfl, h⟩) (runL_ok hK _ R S e ce r hs h))
  | true =>
    simp only [if_true] at h
    split at h
    · rename_i hd
      have := open_ok hK hs.hr _ _ _ _ _ _ _ r h R ce [] [] hs (hsh _) (by simp)
      refine (Dc_open _ hd rfl (DE_of_DE2 _ _ _ _ _ _ (fun ce' H' => (fun x ce' H' => x = Ex.normal ∧ ∃ R1 : Rl, R1.H = H' ∧ VSta n R0 R1 r.2 r.1 ce') .normal ce' H') ?_))
      refine DE2_mono _ _ _ _ _ _ _ _ (fun _ _ h => ⟨rfl, h⟩) this
    · rename_i hd
      split at h
      · rename_i hd2
        have := open_ok hK hs.hr _ _ _ _ _ _ _ r h R ce [] [] hs (hsh _) (by simp)
        refine Dc_open2 _ (by simpa using hd) hd2 rfl ?_
        refine DE2_mono _ _ _ _ _ _ _ _ (fun _ _ h => ⟨rfl, h⟩) this
      · cases h
where
  DE2_mono : ∀ (l : List Oper) (T : List (List Nat)) (e : Env) (H : Hp) (Hs : List Hp) (ob : List Obl) (Q Q' : Env → Hp → Prop), (∀ e H, Q e H → Q' e H) → DE2 P X ops T l e H Hs ob Q → DE2 P X ops T l e H Hs ob Q'
  | [], T, e, H, Hs, ob, Q, Q', hq, h => by cases T <;> exact ⟨h.1, hq _ _ h.2⟩
  | o :: rest, [], e, H, Hs, ob, Q, Q', hq, h => h.elim
  | o :: rest, t :: T, e, H, Hs, ob, Q, Q', hq, h => by
    refine Step_mono ?_ h
    intro v H' h
    split at h
    · rename_i hl; rw [if_pos hl]; exact DE2_mono rest T _ _ _ _ _ _ hq h
    · rename_i hl; rw [if_neg hl]; exact DE2_mono rest T _ _ _ _ _ _ hq h
end
end Go.Proofs.YtmdpggecelheoaaDoor.Abs
