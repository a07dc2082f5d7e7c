/- All light operations over values with their slices: the plain heap answers alike. -/
import Derived.Test.YtmdpggecelheoaaDoorPW4
set_option linter.unusedVariables false
set_option linter.unusedSimpArgs false
namespace Go.Proofs.YtmdpggecelheoaaDoor.Abs
open Go

section
variable {R : Rl} {S : VH} {P : Program}
theorem RdO_some {o o' : Option Value} (h : ∀ v, o = some v → ∃ u, o' = some u ∧ Rd R v u) : True := trivial
/-- What bounds may be: the same numbers. -/
theorem abound_ok {ρ ρ' : Operand → Value} (hρ : ∀ x, Rd R (ρ x) (ρ' x)) {x : Option Operand} {d i : Int} (h : abound (x.map ρ) d = some i) : abound (x.map ρ') d = some i := by
  cases x with
  | none => exact h
  | some x =>
    simp only [Option.map_some] at h ⊢
    have := hρ x
    unfold abound at h
    split at h
    · rename_i hh; cases hh
    · rename_i k j hh
      cases h
      have e : ρ x = .int k i := Option.some.inj hh
      rw [e] at this
      rw [this.inv_int]
      rfl
    · cases h
theorem cut_ok {ρ ρ' : Operand → Value} (hρ : ∀ x, Rd R (ρ x) (ρ' x)) {t : TypeId} {v a w : Value} {lo hi mx : Option Operand} (hv : Rd R v w) (h : vcut P t v (lo.map ρ) (hi.map ρ) (mx.map ρ) = some a) :
    ∃ u, aslice P t w (lo.map ρ') (hi.map ρ') (mx.map ρ') = some u ∧ Rd R a u := by
  unfold vcut at h
  split at h
  · rename_i d sz l hx
    obtain rfl := hv.is_ro hx
    obtain ⟨b, off, rfl, h0, hh⟩ := hv.inv_ro
    simp only [Option.bind_eq_some_iff] at h
    obtain ⟨e, he, q, hq, p, hp, h⟩ := h
    split at h
    · rename_i hs
      cases h
      have hm : mx.map ρ' = none := by
        have := hs.2.1
        cases mx with
        | none => rfl
        | some _ => cases this
      have hq' := abound_ok hρ hq
      have hp' := abound_ok hρ hp
      refine ⟨_, by rw [hm, aslice_slice he hs.1, hq', hp']; simp only [Option.bind_some]; rw [if_pos hs.2.2], ?_⟩
      have hlen : ((l.drop p.toNat).take (q - p).toNat).length = (q - p).toNat := by
        rw [List.length_take, List.length_drop]; omega
      rcases hh with rfl | ⟨o, el, c, hpr, hM, hg, hl, hsz, hok, hc⟩
      · simp only [List.drop_nil, List.take_nil] at hlen ⊢
        rw [← hlen]
        exact .roE d sz b _ h0
      · have hin : p.toNat + (q - p).toNat ≤ l.length := by omega
        have hr := sub_row hl hsz hc hin
        have hin' := Nat.mul_le_mul_right sz hin
        rw [Nat.add_mul] at hin'
        have hsz' : ∀ x ∈ (l.drop p.toNat).take (q - p).toNat, x.cells.size = sz := fun x hx => hsz x (List.mem_of_mem_drop (List.mem_of_mem_take hx))
        have hok' := okvL_sub hok p.toNat (q - p).toNat
        generalize (l.drop p.toNat).take (q - p).toNat = L at hlen hr hsz' hok' ⊢
        rw [← hlen] at hr hin' ⊢
        exact .ro d sz L b (off + p.toNat * sz) o el c h0 hpr hM hg (by omega) hsz' hok' hr.2
    · cases h
  · rename_i k sz off l hx
    obtain rfl := hv.is_own hx
    obtain ⟨b, el, c, rfl, h0, hρk, hg, hl, hsz, hok, hc⟩ := hv.inv_own
    simp only [Option.bind_eq_some_iff] at h
    obtain ⟨e, he, q, hq, p, hp, h⟩ := h
    split at h
    · rename_i hs
      cases h
      have hm : mx.map ρ' = none := by
        have := hs.2.1
        cases mx with
        | none => rfl
        | some _ => cases this
      have hq' := abound_ok hρ hq
      have hp' := abound_ok hρ hp
      refine ⟨_, by rw [hm, aslice_slice he hs.1, hq', hp']; simp only [Option.bind_some]; rw [if_pos hs.2.2], ?_⟩
      have hlen : ((l.drop p.toNat).take (q - p).toNat).length = (q - p).toNat := by
        rw [List.length_take, List.length_drop]; omega
      have hin : p.toNat + (q - p).toNat ≤ l.length := by omega
      have hr := sub_row hl hsz hc hin
      have hin' := Nat.mul_le_mul_right sz hin
      rw [Nat.add_mul] at hin'
      have hsz' : ∀ x ∈ (l.drop p.toNat).take (q - p).toNat, x.cells.size = sz := fun x hx => hsz x (List.mem_of_mem_drop (List.mem_of_mem_take hx))
      have hok' := okvL_sub hok p.toNat (q - p).toNat
      generalize (l.drop p.toNat).take (q - p).toNat = L at hlen hr hsz' hok' ⊢
      rw [← hlen] at hr hin' ⊢
      rw [← Nat.add_mul] at hr ⊢
      exact .own k sz (off + p.toNat) L b el c h0 hρk hg (by rw [Nat.add_mul]; omega) hsz' hok' hr.2
    · cases h
  · have hm : ∀ {mx : Option Operand}, mx.map ρ = none → mx.map ρ' = none := by
      intro mx this
      cases mx with
      | none => rfl
      | some _ => cases this
    split at h
    · rw [hv.inv_slice0]
      simp only [Option.bind_eq_some_iff] at h
      obtain ⟨e, he, q, hq, p, hp, h⟩ := h
      split at h
      · rename_i hs
        cases h
        obtain ⟨sz, hsz⟩ := Option.isSome_iff_exists.1 hs.1
        exact ⟨_, by rw [hm hs.2.1, aslice_nil he hsz, abound_ok hρ hq, abound_ok hρ hp]; simp only [Option.bind_some]; rw [if_pos hs.2.2], .scal _ rfl⟩
      · cases h
    · rw [hv.inv_string]
      split at h
      · rename_i hu
        simp only [Option.bind_eq_some_iff] at h
        obtain ⟨q, hq, p, hp, h⟩ := h
        split at h
        · rename_i hs
          cases h
          exact ⟨_, by rw [hm hs.1, aslice_str hu, abound_ok hρ hq, abound_ok hρ hp]; simp only [Option.bind_some]; rw [if_pos hs.2], .scal _ rfl⟩
        · cases h
      · cases h
    · cases h
theorem len_ok {t : TypeId} {v a w : Value} (hv : Rd R v w) (h : vlen P t v = some a) : (∀ H, alen P t w H = some a) ∧ ∃ n : Nat, a = .int .i64 n := by
  unfold vlen at h
  split at h
  · rename_i d sz l hx
    obtain rfl := hv.is_ro hx
    obtain ⟨b, off, rfl, _⟩ := hv.inv_ro
    split at h
    · rename_i he
      cases h
      obtain ⟨e, he⟩ := Option.isSome_iff_exists.1 he
      exact ⟨fun H => alen_slice he _ _ _, _, rfl⟩
    · cases h
  · rename_i k sz off l hx
    obtain rfl := hv.is_own hx
    obtain ⟨b, el, c, rfl, _⟩ := hv.inv_own
    split at h
    · rename_i he
      cases h
      obtain ⟨e, he⟩ := Option.isSome_iff_exists.1 he
      exact ⟨fun H => alen_slice he _ _ _, _, rfl⟩
    · cases h
  · split at h
    · rw [hv.inv_slice0]
      split at h
      · rename_i he
        cases h
        obtain ⟨e, he⟩ := Option.isSome_iff_exists.1 he
        exact ⟨fun H => alen_slice he _ _ _, 0, rfl⟩
      · cases h
    · rw [hv.inv_string]
      split at h
      · rename_i hu
        cases h
        exact ⟨fun H => alen_str hu _, _, rfl⟩
      · cases h
    · cases h
theorem nil_ok {ρ : Operand → Value} {x : Operand} {v a w : Value} (hv : Rd R v w) (hw : ρ x = w) (h : vnil v = some a) : ∃ u, lop P ρ R.H (.nilCheck x) = some u ∧ Rd R a u := by
  unfold vnil at h
  simp only [lop, hw]
  split at h
  · rename_i y hy
    obtain rfl := hv.is_at hy
    cases h
    obtain ⟨b, off, rfl, _⟩ := hv.inv_at
    exact ⟨_, rfl, hv⟩
  · rename_i k j y hy
    obtain rfl := hv.is_atOwn hy
    cases h
    obtain ⟨sz, b, rfl, _⟩ := hv.inv_atOwn
    exact ⟨_, rfl, hv⟩
  · rename_i k y hy
    obtain rfl := hv.is_inOwn hy
    cases h
    obtain ⟨b, off, rfl, _⟩ := hv.inv_inOwn
    exact ⟨_, rfl, hv⟩
  · split at h
    · cases h
      obtain ⟨b, hb, hs, rfl⟩ := hv.inv_ptr
      exact ⟨_, rfl, hv⟩
    · rename_i f x y _ _ _
      cases h
      obtain ⟨x⟩ := x
      obtain ⟨y⟩ := y
      obtain ⟨x', y', rfl, _⟩ := hv.inv_clo
      exact ⟨_, rfl, hv⟩
    · cases h
theorem rd_ptr_some {v w : Value} (hv : Rd R v w) (h : isPtr v = true) : ∃ a, w = .pointer (some a) := by
  unfold isPtr at h
  split at h
  · rename_i y hy
    obtain rfl := hv.is_at hy
    obtain ⟨b, off, rfl, _⟩ := hv.inv_at
    exact ⟨_, rfl⟩
  · rename_i k j y hy
    obtain rfl := hv.is_atOwn hy
    obtain ⟨sz, b, rfl, _⟩ := hv.inv_atOwn
    exact ⟨_, rfl⟩
  · rename_i k y hy
    obtain rfl := hv.is_inOwn hy
    obtain ⟨b, off, rfl, _⟩ := hv.inv_inOwn
    exact ⟨_, rfl⟩
  · split at h
    · obtain ⟨b, hb, hs, rfl⟩ := hv.inv_ptr
      exact ⟨_, rfl⟩
    · cases h
theorem flat_ptr (n : Nat) (a : Addr) : flat n (.pointer (some a)) = false := by cases n <;> rfl
theorem flat_sl (n : Nat) (a : Addr) (k m : Nat) : flat n (.slice (some a) k m) = false := by cases n <;> rfl
theorem abin_ptr {op : BinOp} {t : TypeId} {x y : Operand} {a : Addr} {d : TypeId} (hu : P.underlying t = some (.pointer d)) :
    abin P .eql t x y (.pointer (some a)) (.pointer none) = some (.bool false) ∧ abin P .neq t x y (.pointer (some a)) (.pointer none) = some (.bool true) := by
  constructor <;> (unfold abin; simp [aggVal, flat_ptr, hu])
theorem abin_sl {t : TypeId} {x y : Operand} {a : Addr} {k m : Nat} {e : TypeId} (hu : elemT P t = some e) :
    abin P .eql t x y (.slice (some a) k m) (.slice none 0 0) = some (.bool false) ∧ abin P .neq t x y (.slice (some a) k m) (.slice none 0 0) = some (.bool true) := by
  constructor <;> (unfold abin; simp [aggVal, flat_sl, elemT_some hu])
theorem onlyFlat_ok {o : Option Value} {a : Value} (h : onlyFlat o = some a) : flat 8 a = true := by
  unfold onlyFlat at h
  split at h
  · split at h
    · rename_i hf; cases h; exact hf
    · cases h
  · cases h
theorem Rd.of_flat : ∀ (n : Nat) (v : Value), flat n v = true → Rd R v v := by
  intro n
  induction n with
  | zero =>
    intro v hf
    by_cases hs : isScal v = true
    · exact .scal v hs
    · exfalso
      cases v with
      | pointer a => cases a <;> simp_all [isScal, flat]
      | map a => cases a <;> simp_all [isScal, flat]
      | slice a n c => cases a <;> cases n <;> cases c <;> simp_all [isScal, flat]
      | _ => simp_all [isScal, flat]
  | succ n ih =>
    intro v hf
    by_cases hs : isScal v = true
    · exact .scal v hs
    · cases v with
      | pointer a => cases a <;> simp_all [isScal, flat]
      | map a => cases a <;> simp_all [isScal, flat]
      | slice a n c => cases a <;> cases n <;> cases c <;> simp_all [isScal, flat]
      | iface t v => exact .iface t v v (ih v (by simpa [flat] using hf))
      | agg x =>
        obtain ⟨x⟩ := x
        simp only [flat, List.all_eq_true, Bool.and_eq_true] at hf
        have : ∀ l : List Value, (∀ v ∈ l, flat n v = true) → RdL R l l := by
          intro l
          induction l with
          | nil => intro _; exact .nil
          | cons a l ihl => intro h; exact .cons (ih a (h a (by simp))) (ihl fun v hv => h v (by simp [hv]))
        exact .agg_of (this x fun v hv => (hf v hv).1)
      | _ => simp_all [isScal, flat]
theorem abin_flat {op : BinOp} {t : TypeId} {x y : Operand} {a b r : Value} (h : abin P op t x y a b = some r) (ha : flat 8 a = true) (hb : flat 8 b = true) : flat 8 r = true := by
  unfold abin at h
  split at h
  · split at h
    · split at h
      · cases h
      · rw [Option.map_eq_some_iff] at h; obtain ⟨_, _, rfl⟩ := h; rfl
    · split at h
      · cases h
      · rw [Option.map_eq_some_iff] at h; obtain ⟨_, _, rfl⟩ := h; rfl
    · cases h
  · rw [if_pos (by simp [ha, hb])] at h
    exact onlyFlat_ok h
theorem pure_equal {P : Program} {t u : TypeId} {ms : Array (String × TypeId)} {v : Value} (hu : P.underlying t = some (.interface ms)) : pureRun P (Op.equal t (.iface u v) .nilIface) = some false := by
  rw [equal_succ]; generalize 9999 = d
  simp [Op.equalIn, underlying, program, pureRun, hu, bind, Sem.bind, pure]
theorem pureRun_map {P : Program} {α β : Type} (f : α → β) : ∀ (s : Sem α) (a : α), pureRun P s = some a → pureRun P (f <$> s) = some (f a) := by
  intro s
  induction s with
  | pure a => intro b h; simp only [pureRun] at h; cases h; rfl
  | program k ih => intro b h; simp only [pureRun] at h; exact ih P b h
  | _ => intro b h; simp [pureRun] at h
theorem flat_iface0 {v : Value} {t : TypeId} : aggVal (.iface t v) = false := rfl
theorem abin_iface {P : Program} {t u : TypeId} {ms : Array (String × TypeId)} {x y : Operand} {v : Value} (hu : P.underlying t = some (.interface ms)) : abin P .eql t x y (.iface u v) .nilIface = some (.bool false) ∧ abin P .neq t x y (.iface u v) .nilIface = some (.bool true) := by
  have h1 : pureRun P (do eqGuard .eql t x y (.iface u v) .nilIface; binOp .eql t (.iface u v) .nilIface) = some (.bool false) := by
    simp only [eqGuard, binOp]
    simp
    exact pureRun_map _ _ _ (pure_equal hu)
  have h2 : pureRun P (do eqGuard .neq t x y (.iface u v) .nilIface; binOp .neq t (.iface u v) .nilIface) = some (.bool true) := by
    simp only [eqGuard, binOp]
    simp
    exact pureRun_map (fun b => Value.bool !b) _ _ (pure_equal hu)
  unfold abin
  simp only [flat_iface0, Bool.false_and, Bool.false_eq_true, if_false]
  by_cases hf : (flat 8 (.iface u v) && flat 8 .nilIface) = true
  · rw [if_pos hf, if_pos hf, h1, h2]; exact ⟨rfl, rfl⟩
  · rw [if_neg hf, if_neg hf]; simp [hu]
theorem Rd.inv_iface {t : TypeId} {v u : Value} (h : Rd R (.iface t v) u) : ∃ w, u = .iface t w ∧ Rd R v w := by
  cases h with
  | iface _ _ w h => exact ⟨w, rfl, h⟩
  | scal _ hs => simp [isScal] at hs
theorem bin_ok {op : BinOp} {t : TypeId} {x y : Operand} {a b r a' b' : Value} (ha : Rd R a a') (hb : Rd R b b') (h : vbin P op t x y a b = some r) : ∃ u, abin P op t x y a' b' = some u ∧ Rd R r u := by
  unfold vbin at h
  split at h
  · rename_i hc
    simp only [Bool.and_eq_true] at hc
    have hb' : b' = .slice none 0 0 := by
      have := hc.2
      unfold isNilSlice at this
      split at this
      · exact hb.inv_slice0
      · cases this
    subst hb'
    have hsl : ∃ ad n m, a' = .slice (some ad) n m := by
      have := hc.1
      unfold isSl at this
      split at this
      · rename_i d sz l hx
        obtain rfl := ha.is_ro hx
        obtain ⟨b, off, rfl, _⟩ := ha.inv_ro
        exact ⟨_, _, _, rfl⟩
      · rename_i k sz off l hx
        obtain rfl := ha.is_own hx
        obtain ⟨b, el, c, rfl, _⟩ := ha.inv_own
        exact ⟨_, _, _, rfl⟩
      · cases this
    obtain ⟨ad, n, m, rfl⟩ := hsl
    split at h
    · rename_i e he
      split at h
      · cases h
      · cases h
      · cases h; exact ⟨_, (abin_sl he).1, .bool _⟩
    · rename_i e he
      split at h
      · cases h
      · cases h
      · cases h; exact ⟨_, (abin_sl he).2, .bool _⟩
    · cases h
  · rename_i hns
    split at h
    · rename_i hf
      simp only [Bool.and_eq_true] at hf
      rw [ha.flat_eq 8 _ _ hf.1, hb.flat_eq 8 _ _ hf.2]
      exact ⟨r, h, .of_flat 8 r (abin_flat h hf.1 hf.2)⟩
    · rename_i hnf
      split at h
      · rename_i d hu
        split at h
        · rename_i hp
          cases h
          obtain ⟨ad, rfl⟩ := rd_ptr_some ha hp
          rw [hb.inv_scal rfl]
          exact ⟨_, (abin_ptr (op := .eql) hu).1, .bool _⟩
        · cases h
      · rename_i d hu
        split at h
        · rename_i hp
          cases h
          obtain ⟨ad, rfl⟩ := rd_ptr_some ha hp
          rw [hb.inv_scal rfl]
          exact ⟨_, (abin_ptr (op := .eql) hu).2, .bool _⟩
        · cases h
      · rename_i d hu
        split at h
        · cases h
          obtain ⟨w, rfl, _⟩ := ha.inv_iface
          rw [hb.inv_scal rfl]
          exact ⟨_, (abin_iface hu).1, .bool _⟩
        · cases h
      · rename_i d hu
        split at h
        · cases h
          obtain ⟨w, rfl, _⟩ := ha.inv_iface
          rw [hb.inv_scal rfl]
          exact ⟨_, (abin_iface hu).2, .bool _⟩
        · cases h
      · cases h
theorem bytes_ok {l : List Value} {bs : List UInt8} (h : bytesOfCells l = some bs) {c : List Value} (hsz : ∀ x ∈ l, x.cells.size = 1) (hc : RdL R (cellsL l) c) : bytesOfCells c = some bs := by
  induction l generalizing bs c with
  | nil => have : c = [] := by have := hc.1; simpa [cellsL] using this.symm
           subst this; exact h
  | cons a l ih =>
    cases a with
    | int k n =>
      have e1 : cellsL (Value.int k n :: l) = .int k n :: cellsL l := rfl
      rw [e1] at hc
      cases c with
      | nil => have := hc.1; simp at this
      | cons u c =>
        obtain rfl := hc.head.inv_int
        cases k with
        | u8 =>
          simp only [bytesOfCells, Option.map_eq_some_iff] at h ⊢
          obtain ⟨bs', h1, h2⟩ := h
          exact ⟨bs', ih h1 (fun x hx => hsz x (by simp [hx])) hc.tail, h2⟩
        | _ => exact absurd (show none = some bs from h) (by simp)
    | _ => exact absurd (show none = some bs from h) (by simp)
theorem aconv_H {s t : TypeId} {v : Value} (hf : flat 8 v = true) (H H' : Hp) : aconv P s t v H = aconv P s t v H' := by
  unfold aconv
  split
  · rfl
  · simp [flat_sl] at hf
  · rfl
  · rfl
  · rfl
theorem aconv_flat {s t : TypeId} {v a : Value} {H : Hp} (h : aconv P s t v H = some a) (hf : flat 8 v = true) : flat 8 a = true := by
  unfold aconv at h
  split at h
  · split at h
    · cases h; rfl
    · cases h
  · simp [flat_sl] at hf
  · cases h
  · rw [if_pos hf] at h
    exact onlyFlat_ok h
  · cases h
theorem conv_ok {s t : TypeId} {v a w : Value} (hv : Rd R v w) (h : vconv P s t v = some a) : ∃ u, aconv P s t w R.H = some u ∧ Rd R a u := by
  have fl : ∀ {v : Value}, Rd R v w → flat 8 v = true → aconv P s t v ⟨0, .tip⟩ = some a → ∃ u, aconv P s t w R.H = some u ∧ Rd R a u := by
    intro v hv hf h
    rw [hv.flat_eq 8 _ _ hf]
    exact ⟨a, by rw [aconv_H hf R.H ⟨0, .tip⟩]; exact h, .of_flat 8 a (aconv_flat h hf)⟩
  unfold vconv at h
  split at h
  · rename_i d sz l hx
    obtain rfl := hv.is_ro hx
    obtain ⟨b, off, rfl, h0, hh⟩ := hv.inv_ro
    split at h
    · rename_i e he ht
      split at h
      · rename_i hu
        split at h
        · rename_i hs1
          subst hs1
          rw [Option.map_eq_some_iff] at h
          obtain ⟨bs, hb, rfl⟩ := h
          refine ⟨_, ?_, .string _⟩
          unfold aconv
          simp only [elemT_some he, ht, hu]
          rcases hh with rfl | ⟨o, el, c, hp, hM, hg, hl, hsz, hok, hc⟩
          · simp only [List.length_nil, cellsAt, if_true, Option.bind_some]
            cases hb; rfl
          · unfold cellsAt
            by_cases hn : l.length = 0
            · have : l = [] := by simpa using hn
              subst this
              simp only [List.length_nil, if_true, Option.bind_some]
              cases hb; rfl
            · rw [if_neg hn]
              simp only [hg]
              rw [Nat.mul_one] at hl hc
              rw [if_pos ⟨hl, trivial⟩]
              simp only [Option.bind_some, bytes_ok hb hsz hc, Option.map_some]
        · cases h
      · cases h
    · cases h
  · rename_i k sz off l hx
    obtain rfl := hv.is_own hx
    obtain ⟨b, el, c, rfl, h0, hρk, hg, hl, hsz, hok, hc⟩ := hv.inv_own
    split at h
    · rename_i e he ht
      split at h
      · rename_i hu
        split at h
        · rename_i hs1
          subst hs1
          rw [Option.map_eq_some_iff] at h
          obtain ⟨bs, hb, rfl⟩ := h
          refine ⟨_, ?_, .string _⟩
          unfold aconv
          simp only [elemT_some he, ht, hu]
          unfold cellsAt
          by_cases hn : l.length = 0
          · have : l = [] := by simpa using hn
            subst this
            simp only [List.length_nil, if_true, Option.bind_some]
            cases hb; rfl
          · rw [if_neg hn]
            simp only [hg]
            simp only [Nat.mul_one] at hl hc ⊢
            rw [if_pos ⟨hl, trivial⟩]
            simp only [Option.bind_some, bytes_ok hb hsz hc, Option.map_some]
        · cases h
      · cases h
    · cases h
  · split at h
    · exact fl hv rfl h
    · split at h
      · rename_i hf
        exact fl hv hf h
      · cases h
end
end Go.Proofs.YtmdpggecelheoaaDoor.Abs
