/- Contracts of the disk's small functions: Size, Steps, check, step, Arm, Read. -/
import Derived.Test.YtopeelclhpjngaaDisk
import Derived.Deep.QuietTactic
import Derived.BigQuiet
namespace Go.Proofs.Ytopeelclhpjngaa
set_option linter.unusedSimpArgs false
set_option linter.unusedVariables false
open Go Go.ChangeMaps Go.RowKit Go.Proofs

theorem dsk_cells {w : World} {b cb mb : Nat} {l : List Ent} {clock : Nat} {D : Dsk} {F : Nat → Prop} (h : DskAt w b cb mb l clock D F) :
    w.cell? ⟨b, 0, none⟩ = some (.slice (some ⟨cb, 0, none⟩) D.cells.length D.cells.length) ∧ w.cell? ⟨b, 1, none⟩ = some (.map (some mb)) ∧ w.cell? ⟨b, 2, none⟩ = some (.int .i64 D.steps) ∧
      w.cell? ⟨b, 3, none⟩ = some (.int .i64 D.after) ∧ w.cell? ⟨b, 4, none⟩ = some (.bool D.dead) :=
  ⟨cell_of h.hb 0, cell_of h.hb 1, cell_of h.hb 2, cell_of h.hb 3, cell_of h.hb 4⟩
theorem dsk_free {w : World} {b cb mb : Nat} {l : List Ent} {clock : Nat} {D : Dsk} {F : Nat → Prop} (h : DskAt w b cb mb l clock D F) :
    w.frozen? ⟨b, 2, none⟩ = false ∧ w.frozen? ⟨b, 3, none⟩ = false ∧ w.frozen? ⟨b, 4, none⟩ = false :=
  ⟨free_of h.hb 2, free_of h.hb 3, free_of h.hb 4⟩

theorem ret_int {k : IntKind} {a b : Int} (h : a = b) : Ending.returned (.int k a) = .returned (.int k b) := by rw [h]

theorem size_c (w : World) (b : Nat) (D : Dsk) (F : Nat → Prop) (h : IsDsk w b D F) :
    Calls Try.prog 15 #[.pointer (some ⟨b, 0, none⟩)] w fun e w' => e = .returned (.int .i64 D.cells.length) ∧ w = w' := by
  obtain ⟨cb, mb, l, clock, h⟩ := h
  obtain ⟨h0, h1, h2, h3, h4⟩ := dsk_cells h
  go_enter Try.func15, Try.ntmps15
  go_wp2
  go_ret
  exact ⟨rfl, rfl⟩

theorem steps_c (w : World) (b : Nat) (D : Dsk) (F : Nat → Prop) (h : IsDsk w b D F) :
    Calls Try.prog 17 #[.pointer (some ⟨b, 0, none⟩)] w fun e w' => e = .returned (.int .i64 D.steps) ∧ w = w' := by
  obtain ⟨cb, mb, l, clock, h⟩ := h
  obtain ⟨h0, h1, h2, h3, h4⟩ := dsk_cells h
  go_enter Try.func17, Try.ntmps17
  go_wp2
  go_ret
  exact ⟨rfl, rfl⟩

theorem check_c (w : World) (b : Nat) (D : Dsk) (F : Nat → Prop) (h : IsDsk w b D F) (i : Int) :
    Calls Try.prog 34 #[.pointer (some ⟨b, 0, none⟩), .int .i64 i] w fun e w' => e = .returned (.int .i64 (D.chk i)) ∧ w = w' := by
  obtain ⟨cb, mb, l, clock, h⟩ := h
  have hl := h.len
  obtain ⟨h0, h1, h2, h3, h4⟩ := dsk_cells h
  obtain ⟨cells, opn, steps, after, dead⟩ := D
  simp only at h0 h2 h3 h4 hl
  clear h
  cases dead
  · by_cases hi : i < 0
    · have : Dsk.chk ⟨cells, opn, steps, after, false⟩ i = 1 := by simp [Dsk.chk, hi]
      rw [this]; clear this
      go_enter Try.func34, Try.ntmps34
      go_wp2
      go_ret
      exact ⟨rfl, rfl⟩
    · by_cases hn : (cells.length : Int) ≤ i
      · have : Dsk.chk ⟨cells, opn, steps, after, false⟩ i = 1 := by simp [Dsk.chk, hn]
        rw [this]; clear this
        go_enter Try.func34, Try.ntmps34
        go_wp2
        go_ret
        exact ⟨rfl, rfl⟩
      · have : Dsk.chk ⟨cells, opn, steps, after, false⟩ i = 0 := by simp [Dsk.chk]; omega
        rw [this]; clear this
        go_enter Try.func34, Try.ntmps34
        go_wp2
        go_ret
        exact ⟨rfl, rfl⟩
  · have : Dsk.chk ⟨cells, opn, steps, after, true⟩ i = 220 := by simp [Dsk.chk]
    rw [this]; clear this
    go_enter Try.func34, Try.ntmps34
    go_wp2
    go_ret
    exact ⟨rfl, rfl⟩

/-- One step: the disk behind it. -/
theorem step_c (w : World) (b : Nat) (D : Dsk) (F : Nat → Prop) (h : IsDsk w b D F) :
    Calls Try.prog 39 #[.pointer (some ⟨b, 0, none⟩)] w fun e w' => e = .returned (.int .i64 D.stpE) ∧ IsDsk w' b D.stp F ∧ Kp F w w' ∧ w'.heap.size = w.heap.size := by
  obtain ⟨cb, mb, l, clock, h⟩ := h
  have hlo := h.alo
  have hhi := h.ahi
  have H := Lib.hid h
  obtain ⟨h0, h1, h2, h3, h4⟩ := dsk_cells h
  obtain ⟨f2, f3, f4⟩ := dsk_free h
  obtain ⟨cells, opn, steps, after, dead⟩ := D
  simp only at h0 h2 h3 h4 hlo hhi
  clear h
  by_cases ha : after = 0
  · subst ha
    go_enter Try.func39, Try.ntmps39
    go_wp2
    go_ret
    have h := H.out
    exact ⟨rfl, ⟨cb, mb, l, clock, by simpa [Dsk.stp] using h.put 4 (.bool true) ⟨cells, opn, steps, 0, true⟩ rfl rfl (by simp) (by simp)⟩, (Kp.refl F w).setCell (fun _ => h.fb) _, by simp⟩
  · by_cases hp : 0 < after
    · go_enter Try.func39, Try.ntmps39
      go_wp2
      go_ret
      have h := H.out
      have hA := h.put 3 (.int .i64 (after - 1)) ⟨cells, opn, steps, after - 1, dead⟩ rfl rfl (by simp) (by simp; omega)
      have hB := hA.put 2 (.int .i64 (wrap64 (steps + 1))) ⟨cells, opn, wrap64 (steps + 1), after - 1, dead⟩ rfl rfl (by simp) (by simp; omega)
      exact ⟨by simp [Dsk.stpE, ha], ⟨cb, mb, l, clock, by simpa [Dsk.stp, ha, hp] using hB⟩, ((Kp.refl F w).setCell (fun _ => h.fb) _).setCell (fun _ => h.fb) _, by simp⟩
    · have hm : after = -1 := by omega
      subst hm
      go_enter Try.func39, Try.ntmps39
      go_wp2
      go_ret
      have h := H.out
      have hB := h.put 2 (.int .i64 (wrap64 (steps + 1))) ⟨cells, opn, wrap64 (steps + 1), -1, dead⟩ rfl rfl (by simp) (by simp)
      exact ⟨by simp [Dsk.stpE], ⟨cb, mb, l, clock, by simpa [Dsk.stp] using hB⟩, (Kp.refl F w).setCell (fun _ => h.fb) _, by simp⟩

end Go.Proofs.Ytopeelclhpjngaa
