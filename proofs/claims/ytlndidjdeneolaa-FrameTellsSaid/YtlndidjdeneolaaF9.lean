/- The plain law of edits: what was written is read again. -/
import Derived.Test.YtlndidjdeneolaaF8
set_option linter.unusedVariables false
set_option linter.unusedSimpArgs false
namespace Go.Proofs.Ytlndidjdeneolaa.Abs
open Go
theorem byteAt_nat {n : Int} (h0 : 0 ≤ n) (h1 : n < 256) : ((byteAt n 0).toNat : Int) = n := by
  obtain ⟨m, rfl⟩ := Int.eq_ofNat_of_zero_le h0
  have hm : m < 256 := by omega
  simp only [byteAt]
  have e : (((m : Int).fdiv (2 ^ (8 * 0))) % 256).toNat = m := by
    simp
    omega
  rw [e, UInt8.toNat_ofNat_of_lt' hm]
theorem numB2 {n : Int} (h0 : 0 ≤ n) (h1 : n ≤ 65535) : (valB (numB n 2) : Int) = n := by
  obtain ⟨m, rfl⟩ := Int.eq_ofNat_of_zero_le h0
  have hm : m < 65536 := by omega
  have e1 : (((m : Int).fdiv (2 ^ (8 * 1))) % 256).toNat = m / 256 := by
    have : (2 : Int) ^ (8 * 1) = ((256 : Nat) : Int) := rfl
    rw [this, Int.fdiv_eq_ediv_of_nonneg _ (by omega)]
    omega
  have e0 : (((m : Int).fdiv (2 ^ (8 * 0))) % 256).toNat = m % 256 := by
    simp
    omega
  have f1 : (UInt8.ofNat (m / 256)).toNat = m / 256 := UInt8.toNat_ofNat_of_lt' (by show m / 256 < 256; omega)
  have f0 : (UInt8.ofNat (m % 256)).toNat = m % 256 := UInt8.toNat_ofNat_of_lt' (by show m % 256 < 256; omega)
  simp only [numB, valB, List.foldl_cons, List.foldl_nil, byteAt, e1, e0, f1, f0]
  omega
theorem valB_one (b : UInt8) : valB [b] = b.toNat := by simp [valB]
theorem tk_app (a l : List UInt8) (k : Nat) (h : a.length = k) : tk k (false, a ++ l) = (a, (false, l)) := by
  subst h
  simp [tk]
theorem shortBad_false {s : List UInt8} (h : shortBad false s = false) : s.length ≤ 255 := by
  simp [shortBad] at h
  omega
theorem rdShort_enc {s : List UInt8} (h : shortBad false s = false) (rest : List UInt8) : rdShort (false, shortB false s ++ rest) = (s, (false, rest)) := by
  have hl := shortBad_false h
  have e : shortB false s ++ rest = [byteAt s.length 0] ++ (s ++ rest) := by simp [shortB, numB]
  have hb : (byteAt s.length 0).toNat = s.length := by
    have := byteAt_nat (n := (s.length : Int)) (by omega) (by omega)
    omega
  simp only [rdShort]
  rw [e, tk_app _ _ 1 rfl]
  simp only [valB_one, hb]
  exact tk_app _ _ _ rfl
theorem cellBad_false {c : CellL} (h : cellBad false c = false) : shortBad false (sb c.sheet) = false ∧ 0 ≤ c.col ∧ c.col ≤ 65535 ∧ 0 ≤ c.row ∧ c.row ≤ 65535 := by
  simp only [cellBad, Bool.or_eq_false_iff, decide_eq_false_iff_not] at h
  exact ⟨h.1.1.1.1, by omega, by omega, by omega, by omega⟩
theorem rdCell_enc {c : CellL} (h : cellBad false c = false) (rest : List UInt8) : rdCell (false, cellB false c ++ rest) = (c, (false, rest)) := by
  obtain ⟨h1, h2, h3, h4, h5⟩ := cellBad_false h
  have e : cellB false c ++ rest = shortB false (sb c.sheet) ++ (numB c.col 2 ++ (numB c.row 2 ++ rest)) := by
    simp [cellB, h1]
  simp only [rdCell]
  rw [e, rdShort_enc h1]
  simp only
  rw [tk_app _ _ 2 (numB_len _ _)]
  simp only
  rw [tk_app _ _ 2 (numB_len _ _)]
  simp only
  obtain ⟨sheet, col, row⟩ := c
  simp only at h2 h3 h4 h5
  rw [numB2 h2 h3, numB2 h4 h5]
  rfl
theorem rdCell_enc0 {c : CellL} (h : cellBad false c = false) : rdCell (false, cellB false c) = (c, (false, [])) := by
  have := rdCell_enc h []
  rwa [List.append_nil] at this
theorem rdShort_enc0 {s : List UInt8} (h : shortBad false s = false) : rdShort (false, shortB false s) = (s, (false, [])) := by
  have := rdShort_enc h []
  rwa [List.append_nil] at this
theorem strB_sb (s : ByteArray) : strB (sb s) = s := rfl
theorem decE_encE {e : EditL} (h : encE e ≠ []) : ∃ u, decE (encE e) = (u, 0) ∧ encE u = encE e ∧ u.kind = e.kind ∧ (u.cell.sheet.size ≤ 400 ∧ u.name.size ≤ 400 ∧ u.text.size ≤ 400 ∧ u.src.sheet.size ≤ 400 ∧ u.dst.sheet.size ≤ 400) := by
  have hb : bodyBad e = false := by
    cases hb : bodyBad e with
    | false => rfl
    | true => simp [encE, hb] at h
  have he : encE e = [byteAt e.kind 0] ++ bodyB e := by simp [encE, hb]
  obtain ⟨kind, cell, name, text, src, dst⟩ := e
  have hk : kind = 1 ∨ kind = 2 ∨ kind = 3 ∨ kind = 4 ∨ kind = 5 ∨ kind = 8 ∨ kind = 6 ∨ kind = 7 ∨ kind = 9 := by
    by_cases hn : kind = 1 ∨ kind = 2 ∨ kind = 3 ∨ kind = 4 ∨ kind = 5 ∨ kind = 8 ∨ kind = 6 ∨ kind = 7 ∨ kind = 9
    · exact hn
    · exfalso
      have : bodyBad ⟨kind, cell, name, text, src, dst⟩ = true := by
        simp only [bodyBad]
        rw [if_neg (by omega), if_neg (by omega), if_neg (by omega), if_neg (by omega), if_neg (by omega), if_neg (by omega)]
      rw [this] at hb
      cases hb
  have hr : rdEdit (encE ⟨kind, cell, name, text, src, dst⟩) = rdBody kind.toNat (false, bodyB ⟨kind, cell, name, text, src, dst⟩) := by
    simp only [rdEdit]
    rw [he, tk_app _ _ 1 rfl]
    have : valB [byteAt kind 0] = kind.toNat := by
      rw [valB_one]
      have := byteAt_nat (n := kind) (by omega) (by omega)
      omega
    simp only [this]
  have z400 : zeroC.sheet.size ≤ 400 := by decide
  have e400 : ByteArray.empty.size ≤ 400 := by decide
  have s400 : ∀ {s : ByteArray}, shortBad false (sb s) = false → s.size ≤ 400 := fun {s} h => by
    have := shortBad_false h
    rw [sb_len] at this
    omega
  have c400 : ∀ {c : CellL}, cellBad false c = false → c.sheet.size ≤ 400 := fun {c} h => s400 (cellBad_false h).1
  simp only [decE, hr]
  rcases hk with rfl | rfl | rfl | rfl | rfl | rfl | rfl | rfl | rfl
  · have hb2 : shortBad (cellBad false cell) (sb text) = false := by simpa [bodyBad] using hb
    have h1 : cellBad false cell = false := by
      cases hc : cellBad false cell with
      | false => rfl
      | true => rw [hc, shortBad_true] at hb2; cases hb2
    rw [h1] at hb2
    have hB : bodyB ⟨1, cell, name, text, src, dst⟩ = cellB false cell ++ shortB false (sb text) := by simp [bodyB, h1, hb2]
    have hx : rdBody (1 : Int).toNat (false, bodyB ⟨1, cell, name, text, src, dst⟩) = ({ kindE 1 with cell := cell, text := text }, (false, [])) := by
      rw [hB]
      simp [rdBody, rdCell_enc h1, rdShort_enc0 hb2, strB_sb]
    rw [hx]
    exact ⟨_, rfl, by simp [encE, bodyBad, bodyB, kindE, h1, hb2], rfl, c400 h1, e400, s400 hb2, z400, z400⟩
  · have h1 : cellBad false cell = false := by simpa [bodyBad] using hb
    have hB : bodyB ⟨2, cell, name, text, src, dst⟩ = cellB false cell := by simp [bodyB]
    have hx : rdBody (2 : Int).toNat (false, bodyB ⟨2, cell, name, text, src, dst⟩) = ({ kindE 2 with cell := cell }, (false, [])) := by
      rw [hB]
      simp [rdBody, rdCell_enc0 h1]
    rw [hx]
    exact ⟨_, rfl, by simp [encE, bodyBad, bodyB, kindE, h1], rfl, c400 h1, e400, e400, z400, z400⟩
  · have h1 : shortBad false (sb name) = false := by simpa [bodyBad] using hb
    have hB : bodyB ⟨3, cell, name, text, src, dst⟩ = shortB false (sb name) := by simp [bodyB, h1]
    have hx : rdBody (3 : Int).toNat (false, bodyB ⟨3, cell, name, text, src, dst⟩) = ({ kindE 3 with name := name }, (false, [])) := by
      rw [hB]
      simp [rdBody, rdShort_enc0 h1, strB_sb]
    rw [hx]
    exact ⟨_, rfl, by simp [encE, bodyBad, bodyB, kindE, h1], rfl, z400, s400 h1, e400, z400, z400⟩
  · have h1 : shortBad false (sb name) = false := by simpa [bodyBad] using hb
    have hB : bodyB ⟨4, cell, name, text, src, dst⟩ = shortB false (sb name) := by simp [bodyB, h1]
    have hx : rdBody (4 : Int).toNat (false, bodyB ⟨4, cell, name, text, src, dst⟩) = ({ kindE 4 with name := name }, (false, [])) := by
      rw [hB]
      simp [rdBody, rdShort_enc0 h1, strB_sb]
    rw [hx]
    exact ⟨_, rfl, by simp [encE, bodyBad, bodyB, kindE, h1], rfl, z400, s400 h1, e400, z400, z400⟩
  · have hb2 : shortBad (shortBad false (sb name)) (sb text) = false := by simpa [bodyBad] using hb
    have h1 : shortBad false (sb name) = false := by
      cases hc : shortBad false (sb name) with
      | false => rfl
      | true => rw [hc, shortBad_true] at hb2; cases hb2
    rw [h1] at hb2
    have hB : bodyB ⟨5, cell, name, text, src, dst⟩ = shortB false (sb name) ++ shortB false (sb text) := by simp [bodyB, h1, hb2]
    have hx : rdBody (5 : Int).toNat (false, bodyB ⟨5, cell, name, text, src, dst⟩) = ({ kindE 5 with name := name, text := text }, (false, [])) := by
      rw [hB]
      simp [rdBody, rdShort_enc h1, rdShort_enc0 hb2, strB_sb]
    rw [hx]
    exact ⟨_, rfl, by simp [encE, bodyBad, bodyB, kindE, h1, hb2], rfl, z400, s400 h1, s400 hb2, z400, z400⟩
  · have hb2 : cellBad (cellBad false src) dst = false := by simpa [bodyBad] using hb
    have h1 : cellBad false src = false := by
      cases hc : cellBad false src with
      | false => rfl
      | true => rw [hc, cellBad_true] at hb2; cases hb2
    rw [h1] at hb2
    have hB : bodyB ⟨8, cell, name, text, src, dst⟩ = cellB false src ++ cellB false dst := by simp [bodyB, h1]
    have hx : rdBody (8 : Int).toNat (false, bodyB ⟨8, cell, name, text, src, dst⟩) = ({ kindE 8 with src := src, dst := dst }, (false, [])) := by
      rw [hB]
      simp [rdBody, rdCell_enc h1, rdCell_enc0 hb2]
    rw [hx]
    exact ⟨_, rfl, by simp [encE, bodyBad, bodyB, kindE, h1, hb2], rfl, z400, e400, e400, c400 h1, c400 hb2⟩
  · exact ⟨kindE 6, by simp [rdBody, bodyB, endedS, kindE], by simp [encE, bodyBad, bodyB, kindE], rfl, z400, e400, e400, z400, z400⟩
  · exact ⟨kindE 7, by simp [rdBody, bodyB, endedS, kindE], by simp [encE, bodyBad, bodyB, kindE], rfl, z400, e400, e400, z400, z400⟩
  · exact ⟨kindE 9, by simp [rdBody, bodyB, endedS, kindE], by simp [encE, bodyBad, bodyB, kindE], rfl, z400, e400, e400, z400, z400⟩
end Go.Proofs.Ytlndidjdeneolaa.Abs
