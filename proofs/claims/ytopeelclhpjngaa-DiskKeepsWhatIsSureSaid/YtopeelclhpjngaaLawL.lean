/- DiskSpoils, without memory. -/
import Derived.Test.YtopeelclhpjngaaLawI
namespace Go.Proofs.Ytopeelclhpjngaa
set_option linter.unusedSimpArgs false
set_option linter.unusedVariables false
open Go Go.ChangeMaps Go.RowKit Go.Proofs

/-- A disk of 16 sectors without open writes, that is not armed. -/
structure Calm (D : Dsk) (cl : List (Sec × Bool)) : Prop where
  cells : D.cells = cl
  opn : D.opn = []
  after : D.after = -1
  dead : D.dead = false
  len : cl.length = 16

theorem WInv.calm {m : Nat} {D : Dsk} {sure : List Sec} {L : List (List Sec)} (h : WInv m D sure L) (hL : L = List.replicate 16 []) : Calm D (sure.map fun s => (s, false)) where
  cells := by
    apply List.ext_getElem?
    intro k
    by_cases hk : k < 16
    · rw [h.cell k hk, List.getElem?_map, List.getD_eq_getElem?_getD]
      rw [List.getElem?_eq_getElem (by rw [h.lS]; exact hk)]
      rfl
    · rw [List.getElem?_eq_none (by rw [h.len]; omega), List.getElem?_eq_none (by rw [List.length_map, h.lS]; omega)]
  opn := by
    cases ho : D.opn with
    | nil => rfl
    | cons p r =>
      exfalso
      have hp := h.keys p (by rw [ho]; simp)
      have ha := h.ats p.1.toNat (by omega)
      rw [hL, List.getD_eq_getElem?_getD, List.getElem?_replicate, if_pos (by omega), Int.toNat_of_nonneg hp.1] at ha
      simp [Dsk.at, ho] at ha
      exact hp.2.2 ha
  after := h.after
  dead := h.dead
  len := by rw [List.length_map, h.lS]

section
variable {D : Dsk} {cl : List (Sec × Bool)}
theorem Calm.chk (h : Calm D cl) (k : Nat) (hk : k < 16) : D.chk (k : Int) = 0 := by
  unfold Dsk.chk
  rw [h.dead, h.cells, h.len]
  simp; omega
theorem Calm.stpE (h : Calm D cl) : D.stpE = 0 := by simp [Dsk.stpE, h.after]
theorem Calm.stp (h : Calm D cl) : D.stp = { D with steps := wrap64 (D.steps + 1) } := by simp [Dsk.stp, h.after]
theorem Calm.small (h : Calm D cl) : ∀ p ∈ D.opn, p.2.length < 1073741824 := by simp [h.opn]
theorem Calm.read (h : Calm D cl) (k : Nat) (hk : k < 16) (c : Sec × Bool) (hc : cl[k]? = some c) : D.read (k : Int) = if c.2 then (zsec, 221) else (c.1, 0) := by
  have hcell : D.cell (k : Int) = c := by
    unfold Dsk.cell
    rw [List.getD_eq_getElem?_getD, Int.toNat_natCast, h.cells, hc]; rfl
  simp [Dsk.read, h.chk k hk, Dsk.look, at_nil h.opn, hcell]
theorem Calm.flip (h : Calm D cl) (k : Nat) (hk : k < 16) (b : Nat) (hb : b < 512) (s : Sec) (hc : cl[k]? = some (s, false)) : D.flipE (k : Int) (b : Int) = 0 ∧ Calm (D.flip (k : Int) (b : Int)) (cl.set k (flipS s b, false)) := by
  have hE : D.flipE (k : Int) (b : Int) = 0 := by
    unfold Dsk.flipE
    rw [h.chk k hk]
    simp; omega
  have hF : D.flip (k : Int) (b : Int) = { D with cells := cl.set k (flipS s b, false) } := by
    unfold Dsk.flip
    rw [hE, h.cells]
    simp only [ne_eq, not_true, if_false, Int.toNat_natCast, List.getD_eq_getElem?_getD, hc, Option.getD_some]
    have : ¬ ((s, false) : Sec × Bool) = (zsec, true) := by simp
    rw [flipC, if_neg this]
  rw [hF]
  exact ⟨hE, rfl, h.opn, h.after, h.dead, by rw [List.length_set, h.len]⟩
theorem Calm.rot (h : Calm D cl) (k : Nat) (hk : k < 16) : Calm (D.rot (k : Int)) (cl.set k (zsec, true)) := by
  have hF : D.rot (k : Int) = { D with cells := cl.set k (zsec, true) } := by
    unfold Dsk.rot
    rw [h.chk k hk, h.cells]
    simp
  rw [hF]
  exact ⟨rfl, h.opn, h.after, h.dead, by rw [List.length_set, h.len]⟩
theorem Calm.crash (h : Calm D cl) (ks : List Int) : Calm (D.crash ks) cl := by
  have hk : D.keys = [] := by simp [Dsk.keys, h.opn]
  have hF : D.crash ks = { newDsk D.cells.length with cells := cl } := by simp [Dsk.crash, hk, crashL, h.cells]
  rw [hF]
  exact ⟨rfl, rfl, rfl, rfl, h.len⟩
/-- A write, and a sync. -/
theorem Calm.write (h : Calm D cl) (k : Nat) (hk : k < 16) (s : Sec) : D.writeE (k : Int) = 0 ∧ (D.write (k : Int) s).syncE = 0 ∧ Calm (D.write (k : Int) s).sync (cl.set k (s, false)) := by
  have hc := h.chk k hk
  have e1 : D.writeE (k : Int) = 0 := by simp [Dsk.writeE, hc, h.stpE]
  have e2 : D.write (k : Int) s = { D with steps := wrap64 (D.steps + 1), opn := [((k : Int), [s])] } := by simp [Dsk.write, hc, h.stpE, h.stp, opnPut, h.opn]
  obtain ⟨D1, hD1⟩ : ∃ D1, D1 = D.write (k : Int) s := ⟨_, rfl⟩
  rw [← hD1] at e2 ⊢
  have c0 : D1.chk 0 = 0 := by rw [e2]; unfold Dsk.chk; rw [h.dead, h.cells, h.len]; simp
  have s0 : D1.stpE = 0 := by rw [e2]; simp [Dsk.stpE, h.after]
  have e3 : D1.syncE = 0 := by simp [Dsk.syncE, c0, s0]
  have e4 : D1.sync = { D1.stp with cells := D1.flush, opn := [] } := by simp [Dsk.sync, c0, s0]
  have e5 : D1.stp = { D1 with steps := wrap64 (D1.steps + 1) } := by rw [e2]; simp [Dsk.stp, h.after]
  have e6 : D1.flush = cl.set k (s, false) := by
    apply List.ext_getElem?
    intro j
    simp only [Dsk.flush, List.getElem?_map, List.getElem?_zipIdx, Nat.zero_add]
    rw [e2]
    simp only [h.cells, Dsk.at]
    by_cases hj : j = k
    · subst hj
      rw [List.getElem?_set_self (by rw [h.len]; exact hk)]
      rw [List.getElem?_eq_getElem (by rw [h.len]; exact hk)]
      simp
    · rw [List.getElem?_set_ne (Ne.symm hj)]
      have hne : ¬ ((k : Int) = (j : Int)) := by omega
      cases cl[j]? <;> simp [hne]
  refine ⟨e1, e3, ?_⟩
  rw [e4, e5, e6]
  exact ⟨rfl, rfl, by rw [e2]; exact h.after, by rw [e2]; exact h.dead, by rw [List.length_set, h.len]⟩
end


/-- A byte. -/
def IsByte (x : Int) : Prop := 0 ≤ x ∧ x < 256
theorem flipByte_back (x : Int) (hx : IsByte x) (r : Nat) (hr : r < 8) : flipByte (flipByte x r) r = x := by
  obtain ⟨n, rfl⟩ := Int.eq_ofNat_of_zero_le hx.1
  have hn : n < 256 := by have := hx.2; omega
  have : ∀ n < 256, ∀ r < 8, flipByte (flipByte ((n : Nat) : Int) r) r = ((n : Nat) : Int) := by decide +kernel
  exact this n hn r hr
theorem filled_byte (b : Int) (j : Nat) (hj : j < 64) : (filled b).toList.getD j 0 = b % 256 := by
  have : (filled b).toList = List.replicate 64 (b % 256) := by unfold filled; rw [Vector.toList_replicate]
  rw [this, List.getD_eq_getElem?_getD, List.getElem?_replicate, if_pos hj]
  rfl
theorem flipS_back (s : Sec) (hs : Fil s) (b : Nat) (hb : b < 512) : flipS (flipS s b) b = s := by
  obtain ⟨x, rfl⟩ := hs
  have hq : b / 8 < 64 := by omega
  have h1 : (flipS (filled x) b).toList.getD (b / 8) 0 = flipByte (x % 256) (b % 8) := by
    unfold flipS
    rw [filled_byte x _ hq, List.getD_eq_getElem?_getD]
    simp [Vector.toList, hq, filled]
  unfold flipS at h1 ⊢
  rw [h1, filled_byte x _ hq] 
  rw [flipByte_back _ ⟨by omega, by omega⟩ _ (by omega)]
  apply Vector.ext
  intro j hj
  by_cases hjq : b / 8 = j
  · subst hjq
    simp [filled]
  · simp [Vector.getElem_setIfInBounds, hjq]

end Go.Proofs.Ytopeelclhpjngaa
