/- The examples of the chapter: sanity returns true. -/
import Derived.Test.YtopeelclhpjngaaLawB
attribute [local go_sem ↓] Go.wp_at_zero Go.wp_at_succ
namespace Go.Proofs.Ytopeelclhpjngaa
set_option linter.unusedSimpArgs false
set_option linter.unusedVariables false
open Go Go.ChangeMaps Go.RowKit Go.Proofs

def sA : Sec := filled 1
def sB : Sec := filled 2
def cs4 : List (Sec × Bool) := List.replicate 4 (zsec, false)
def d1 : Dsk := ⟨cs4, [(2, [sA])], 1, -1, false⟩
def d2 : Dsk := ⟨cs4, [(2, [sA, sB])], 2, -1, false⟩
def d3 : Dsk := ⟨cs4.set 2 (sB, false), [], 3, -1, false⟩
def sB1 : Sec := sB.setIfInBounds 1 0
def d4 : Dsk := ⟨cs4.set 2 (sB1, false), [], 3, -1, false⟩
def d5 : Dsk := ⟨cs4.set 2 (zsec, true), [], 3, -1, false⟩
def d6 : Dsk := ⟨cs4.set 2 (zsec, true), [(2, [sA])], 4, -1, false⟩
def d7 : Dsk := ⟨cs4.set 2 (zsec, true), [(2, [sA])], 4, 0, false⟩
def d8 : Dsk := ⟨cs4.set 2 (zsec, true), [(2, [sA])], 4, 0, true⟩
theorem e1 : (newDsk 4).write 2 (filled 1) = d1 ∧ (newDsk 4).writeE 2 = 0 := by simp [Dsk.write, Dsk.writeE, Dsk.chk, Dsk.stpE, Dsk.stp, opnPut, opnSet, newDsk, wrap64, d1, d2, d5, d6, cs4, sA, sB]
theorem e2 : d1.write 2 (filled 2) = d2 ∧ d1.writeE 2 = 0 := by simp [Dsk.write, Dsk.writeE, Dsk.chk, Dsk.stpE, Dsk.stp, opnPut, opnSet, newDsk, wrap64, d1, d2, d5, d6, cs4, sA, sB]
theorem e3 : d2.sync = d3 ∧ d2.syncE = 0 := by
  constructor
  · simp [Dsk.sync, Dsk.chk, Dsk.stpE, Dsk.stp, Dsk.flush, Dsk.at, wrap64, d2, d3, cs4, List.replicate, List.zipIdx]
  · simp [Dsk.syncE, Dsk.chk, Dsk.stpE, d2, cs4]
theorem e4 : d3.flip 2 9 = d4 ∧ d3.flipE 2 9 = 0 := by
  refine ⟨?_, rfl⟩
  have hne : ¬ ((sB, false) : Sec × Bool) = (zsec, true) := by simp
  have hE : d3.flipE 2 9 = 0 := rfl
  have hg : d3.cells.getD (2 : Int).toNat (zsec, false) = (sB, false) := rfl
  have hb : flipByte (sB.toList.getD 1 0) 1 = 0 := by decide
  simp only [Dsk.flip, hE, ne_eq, not_true, if_false, hg, flipC, if_neg hne]
  have h9 : flipS sB (9 : Int).toNat = sB1 := by
    show sB.setIfInBounds 1 (flipByte (sB.toList.getD 1 0) 1) = sB.setIfInBounds 1 0
    rw [hb]
  rw [h9]
  rfl
theorem e5 : d4.rot 2 = d5 ∧ d4.chk 2 = 0 := ⟨rfl, rfl⟩
theorem e6 : d5.write 2 (filled 1) = d6 ∧ d5.writeE 2 = 0 := by simp [Dsk.write, Dsk.writeE, Dsk.chk, Dsk.stpE, Dsk.stp, opnPut, opnSet, newDsk, wrap64, d1, d2, d5, d6, cs4, sA, sB]
theorem e7 : d6.arm 0 = d7 := rfl
theorem e8 : d7.write 0 (filled 1) = d8 ∧ d7.writeE 0 = 220 := ⟨rfl, rfl⟩
theorem r1 : d1.read 2 = (sA, 0) := by simp [Dsk.read, Dsk.chk, Dsk.look, Dsk.at, d1, cs4]
theorem r4 : d4.read 2 = (sB1, 0) := by simp [Dsk.read, Dsk.chk, Dsk.look, Dsk.at, Dsk.cell, d4, cs4]
theorem r5 : d5.read 2 = (zsec, 221) := by simp [Dsk.read, Dsk.chk, Dsk.look, Dsk.at, Dsk.cell, d5, cs4]
theorem r6 : d6.read 2 = (sA, 0) := by simp [Dsk.read, Dsk.chk, Dsk.look, Dsk.at, d6, cs4]
theorem r8 : d8.read 0 = (zsec, 220) := by simp [Dsk.read, Dsk.chk, d8]
theorem o1 : d1.opens = [2] := by simp [Dsk.opens, opensL, Dsk.keys, Dsk.at, d1]
/-- What the disk that is found has in its sector, and its error. -/
def wants : List (Sec × Int) := [(zsec, 0), (sA, 0), (sB, 0), (zsec, 221), (tornS sB sA, 0)]
theorem c2 (n : Nat) (hn : n < 5) : (d2.crash [(n : Int)]).read 2 = wants.getD n (zsec, 0) ∧ (d2.crash [(n : Int)]).opens = [] ∧ (d2.crash [(n : Int)]).cells.length = 4 := by
  have hk : d2.keys = [2] := by simp [Dsk.keys, d2]
  have hl : d2.cells.length = 4 := rfl
  have ha : d2.at 2 = [sA, sB] := by simp [Dsk.at, d2]
  have hcr : d2.crash [(n : Int)] = ⟨cs4.set 2 (foundC (zsec, false) [sA, sB] n), [], 0, -1, false⟩ := by
    simp [Dsk.crash, hk, crashL, ha, newDsk, keepX]
    rfl
  rw [hcr]
  refine ⟨?_, by simp [Dsk.opens, opensL, Dsk.keys], by simp [cs4]⟩
  have : n = 0 ∨ n = 1 ∨ n = 2 ∨ n = 3 ∨ n = 4 := by omega
  rcases this with rfl | rfl | rfl | rfl | rfl <;> simp [Dsk.read, Dsk.chk, Dsk.look, Dsk.at, Dsk.cell, cs4, foundC, foundR, wants]

end Go.Proofs.Ytopeelclhpjngaa
