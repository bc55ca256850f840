/- Slices of operations and of numbers that came in. -/
import Derived.Test.YtopeelclhpjngaaLawG
import Derived.Test.YtopeelclhpjngaaRows
import Derived.ProofKit
import Derived.OpenShut
import Derived.Below
import Derived.Deep.Slices
import Derived.Deep.Strs
namespace Go.Proofs.Ytopeelclhpjngaa
set_option linter.unusedSimpArgs false
set_option linter.unusedVariables false
open Go Go.ChangeShapes Go.WideShapes Go.ChangeAt Go.RowKit

theorem own : ownKnob Try.prog.godebug = none := by kernel_rfl
theorem laidOut : laidOutB Try.prog = true := by kernel_rfl

theorem length_flatOps : ∀ l : List RefOp, (l.flatMap opCells).length = l.length * 3
  | [] => rfl
  | a :: r => by
    have := length_flatOps r
    simp only [List.flatMap_cons, List.length_append, length_opCells, List.length_cons, this]
    omega
/-- A slice of operations that came in. -/
theorem open_ops {H : Type} {enc : TypeId × Value → H} {w : World} {base : Nat} {spare : Nat → Bool} {held : Bool} {fuel : Nat} {cs : List Value} {x : DataW H × List MemPlace}
    (h : DataW.trod enc Try.prog w base spare held fuel 22 cs = some x) :
    ∃ v xs, cs = [v] ∧ OpsIn w v xs := by
  rcases Go.Deep.open_slice Try.underlying22 h with ⟨h0, _⟩ | ⟨a, len, cap, m, n, D, Pl, rfl, hb, hl, hm, hmm, _, hx⟩
  · exact ⟨_, [], h0, .inl ⟨rfl, none, 0, rfl⟩⟩
  · have hC : Try.prog.cellsOf 29 = 3 := by kernel_rfl
    rw [hC] at hx
    have hlm : len ≤ m := by rw [hmm]; split <;> omega
    have hC3 : Try.prog.cellsOf 3 = 1 := by kernel_rfl
    have hel : ∀ i, i < len → ∃ y : RefOp, ∀ j u, (opCells y)[j]? = some u → w.cell? ((a.add (i * 3)).add j) = some u := by
      intro i hi
      obtain ⟨cs', h1, h2⟩ := hx i (by omega)
      obtain ⟨_, hlen, hc⟩ := World.cells?_some h1
      match cs', hlen with
      | [c0, c1, c2], _ =>
        obtain ⟨y0, y1, y2, n', _, _, t0, t1, t2⟩ := Go.Deep.trod_struct3 Try.underlying29 h2
        obtain ⟨k0, e0, _, _⟩ := DataW.trod_int Try.underlying3 t0
        obtain ⟨k1, e1, _, _⟩ := DataW.trod_int Try.underlying3 t1
        obtain ⟨k2, e2, _, _⟩ := DataW.trod_int Try.underlying3 t2
        simp [hC3] at e0 e1 e2
        subst e0 e1 e2
        refine ⟨(k0, k1, k2), fun j u hu => ?_⟩
        have hj : j < 3 := by have := (List.getElem?_eq_some_iff.1 hu).1; simpa using this
        rw [hc j hj]
        exact hu
    by_cases hlen0 : len = 0
    · subst hlen0
      exact ⟨_, [], rfl, .inl ⟨rfl, some a, cap, rfl⟩⟩
    obtain ⟨g, o, sp⟩ := a
    have hsp : sp = none := by
      obtain ⟨y, hy⟩ := hel 0 (by omega)
      have := World.cell?_spot (hy 0 _ rfl)
      simpa [Addr.add] using this
    subst hsp
    obtain ⟨Y, hY⟩ := Go.Deep.choose_lt (α := RefOp) (p := fun i y => ∀ j u, (opCells y)[j]? = some u → w.cell? (((⟨g, o, none⟩ : Addr).add (i * 3)).add j) = some u) hel
    refine ⟨_, (List.range len).map Y, rfl, .inr ⟨by simp; omega, g, o, cap, by simp, fun j u hu => ?_⟩⟩
    have hjl := (List.getElem?_eq_some_iff.1 hu).1
    have hfl : (((List.range len).map Y).flatMap opCells).length = len * 3 := by rw [length_flatOps]; simp
    rw [hfl] at hjl
    have hi : j / 3 < ((List.range len).map Y).length := by simp; omega
    have hf := flat_at opCells 3 length_opCells ((List.range len).map Y) (j / 3) hi
    have h3 : (opCells (Y (j / 3)))[j % 3]? = some u := by
      have e : ((List.range len).map Y)[j / 3] = Y (j / 3) := by simp
      rw [← e, ← hf, List.getElem?_take, if_pos (Nat.mod_lt _ (by omega)), List.getElem?_drop, show j / 3 * 3 + j % 3 = j by omega]
      exact hu
    have := hY (j / 3) (by simp at hi; exact hi) (j % 3) u h3
    rw [Addr.add_mid, Addr.add_mid] at this
    rw [show o + j / 3 * 3 + j % 3 = o + j by omega] at this
    exact this

/-- A slice of ints that came in. -/
theorem open_nums {H : Type} {enc : TypeId × Value → H} {w : World} {base : Nat} {spare : Nat → Bool} {held : Bool} {fuel : Nat} {cs : List Value} {x : DataW H × List MemPlace}
    (h : DataW.trod enc Try.prog w base spare held fuel 41 cs = some x) : ∃ v xs, cs = [v] ∧ Ints w v xs := by
  rcases open_ints Try.underlying41 Try.underlying3 (by kernel_rfl) h with ⟨hcs, _⟩ | ⟨a, len, cap, zs, hcs, _, hl, hm, hz, _, hcell, hwz⟩
  · exact ⟨_, [], hcs, .inl ⟨rfl, none, 0, rfl⟩⟩
  · by_cases h0 : len = 0
    · subst h0
      exact ⟨_, [], hcs, .inl ⟨rfl, some a, cap, rfl⟩⟩
    · obtain ⟨g, o, sp⟩ := a
      have hzl : len ≤ zs.length := by rw [hz]; split <;> omega
      have hsp : sp = none := by
        have := World.cell?_spot (hcell 0 (by omega))
        simpa [Addr.add] using this
      subst hsp
      refine ⟨_, zs.take len, hcs, .inr ⟨fun e => ?_, g, o, cap, by rw [List.length_take, Nat.min_eq_left hzl], fun j u hu => ?_⟩⟩
      · have := congrArg List.length e
        rw [List.length_take, Nat.min_eq_left hzl] at this
        exact h0 this
      · have hj : j < len := by
          have := (List.getElem?_eq_some_iff.1 hu).1
          simp at this; omega
        have hjz : j < zs.length := by omega
        rw [List.getElem?_map, List.getElem?_take, if_pos hj, List.getElem?_eq_getElem hjz] at hu
        have hc := hcell j hjz
        rw [Addr.add_mid] at hc
        rw [hc, ← hu]
        simp [List.getD, hjz]

end Go.Proofs.Ytopeelclhpjngaa
