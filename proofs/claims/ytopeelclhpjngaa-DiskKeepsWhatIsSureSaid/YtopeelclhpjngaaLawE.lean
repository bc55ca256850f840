/- DiskStops, without memory: what is kept from operation to operation. -/
import Derived.Test.YtopeelclhpjngaaLawB
namespace Go.Proofs.Ytopeelclhpjngaa
set_option linter.unusedSimpArgs false
set_option linter.unusedVariables false
open Go Go.ChangeMaps Go.RowKit Go.Proofs

/-- What is kept behind 'i' operations on a disk of 16 sectors that was armed with 'n'. -/
structure StopInv (n i : Nat) (D : Dsk) (sure now : Int → Option Sec) : Prop where
  len : D.cells.length = 16
  cell : ∀ k : Nat, k < 16 → D.cells[k]? = some ((sure k).getD zsec, false)
  last : ∀ k : Int, now k = (D.at k).getLast?
  keys : ∀ p ∈ D.opn, 0 ≤ p.1 ∧ p.1 < 16 ∧ p.2 ≠ []
  small : ∀ p ∈ D.opn, p.2.length ≤ i
  steps : D.steps = ((min i n : Nat) : Int)
  after : D.after = ((n - i : Nat) : Int)
  dead : D.dead = decide (n < i)

theorem at_nil {D : Dsk} (h : D.opn = []) (k : Int) : D.at k = [] := by simp [Dsk.at, h]

theorem find_opnSet (i : Int) (s : Sec) : ∀ (l : List (Int × List Sec)) (j : Int), ((opnSet i s l).find? (fun x => x.1 == j)).map (·.2) = if j = i then ((l.find? (fun x => x.1 == j)).map (·.2)).map (· ++ [s]) else (l.find? (fun x => x.1 == j)).map (·.2)
  | [], j => by simp [opnSet]
  | x :: r, j => by
    by_cases hx : x.1 = i
    · simp only [opnSet, hx, beq_self_eq_true, if_true, List.find?_cons]
      by_cases hj : j = i
      · subst hj; simp [hx]
      · have h1 : (i == j) = false := by simpa using fun e => hj e.symm
        simp [h1, hx, hj]
    · have hb : (x.1 == i) = false := by simpa using hx
      simp only [opnSet, hb, Bool.false_eq_true, if_false, List.find?_cons]
      by_cases hxj : x.1 = j
      · have : ¬ j = i := fun e => hx (hxj.trans e)
        simp [hxj, this]
      · have h2 : (x.1 == j) = false := by simpa using hxj
        rw [h2]
        exact find_opnSet i s r j

theorem at_put (D D' : Dsk) (i : Int) (s : Sec) (h : D'.opn = opnPut D.opn i s) (j : Int) : D'.at j = if j = i then D.at j ++ [s] else D.at j := by
  unfold Dsk.at
  rw [h, opnPut]
  by_cases ha : D.opn.any (fun x => x.1 == i) = true
  · rw [if_pos ha, find_opnSet]
    by_cases hj : j = i
    · subst hj
      obtain ⟨x, hx, hxj⟩ := List.any_eq_true.1 ha
      cases hf : D.opn.find? (fun x => x.1 == j) with
      | none => exact absurd hxj (by have := List.find?_eq_none.1 hf x hx; simpa using this)
      | some y => simp
    · simp [hj]
  · rw [if_neg ha]
    have hn : ∀ x ∈ D.opn, ¬ x.1 = i := fun x hx e => ha (List.any_eq_true.2 ⟨x, hx, by simpa using e⟩)
    rw [List.find?_append]
    by_cases hj : j = i
    · subst hj
      have : D.opn.find? (fun x => x.1 == j) = none := List.find?_eq_none.2 (fun x hx => by simpa using hn x hx)
      simp [this]
    · have h1 : (i == j) = false := by simpa using fun e => hj e.symm
      simp [hj, h1]

theorem mem_opnSet (i : Int) (s : Sec) : ∀ (l : List (Int × List Sec)) (p : Int × List Sec), p ∈ opnSet i s l → p ∈ l ∨ ∃ q ∈ l, p = (i, q.2 ++ [s])
  | [], p, h => by simp [opnSet] at h
  | x :: r, p, h => by
    by_cases hx : x.1 = i
    · simp only [opnSet, hx, beq_self_eq_true, if_true, List.mem_cons] at h
      rcases h with rfl | h
      · exact .inr ⟨x, by simp, rfl⟩
      · exact .inl (by simp [h])
    · have hb : (x.1 == i) = false := by simpa using hx
      simp only [opnSet, hb, Bool.false_eq_true, if_false, List.mem_cons] at h
      rcases h with rfl | h
      · exact .inl (by simp)
      · rcases mem_opnSet i s r p h with h | ⟨q, hq, rfl⟩
        · exact .inl (by simp [h])
        · exact .inr ⟨q, by simp [hq], rfl⟩
theorem mem_opnPut (l : List (Int × List Sec)) (i : Int) (s : Sec) (p : Int × List Sec) (h : p ∈ opnPut l i s) : p ∈ l ∨ (∃ q ∈ l, p = (i, q.2 ++ [s])) ∨ p = (i, [s]) := by
  unfold opnPut at h
  split at h
  · rcases mem_opnSet i s l p h with h | h
    · exact .inl h
    · exact .inr (.inl h)
  · rcases List.mem_append.1 h with h | h
    · exact .inl h
    · exact .inr (.inr (by simpa using h))

theorem StopInv.new (n : Nat) : StopInv n 0 ((newDsk 16).arm n) (fun _ => none) (fun _ => none) where
  len := by simp [Dsk.arm, newDsk]
  cell := fun k hk => by
    show (List.replicate 16 ((zsec, false) : Sec × Bool))[k]? = _
    rw [List.getElem?_replicate, if_pos hk]; rfl
  last := fun k => by simp [Dsk.at, Dsk.arm, newDsk]
  keys := by simp [Dsk.arm, newDsk]
  small := by simp [Dsk.arm, newDsk]
  steps := by simp [Dsk.arm, newDsk]
  after := by simp only [Dsk.arm]; rw [if_neg (by omega)]; simp
  dead := by simp [Dsk.arm, newDsk]

section
variable {n i : Nat} {D : Dsk} {sure now : Int → Option Sec}
theorem StopInv.chk (h : StopInv n i D sure now) (k : Int) (h0 : 0 ≤ k) (h1 : k < 16) : D.chk k = if n < i then 220 else 0 := by
  unfold Dsk.chk
  rw [h.dead, h.len]
  by_cases hd : n < i
  · simp [hd]
  · simp [hd]; omega
theorem StopInv.stpE (h : StopInv n i D sure now) (hi : i ≤ n) : D.stpE = if i = n then 220 else 0 := by
  unfold Dsk.stpE
  rw [h.after]
  by_cases e : i = n
  · simp [e]
  · rw [if_neg (by omega), if_neg e]
/-- A step that is not done. -/
theorem StopInv.stop (h : StopInv n i D sure now) (D' : Dsk) (hi : n ≤ i) (hc : D'.cells = D.cells) (ho : D'.opn = D.opn) (hs : D'.steps = D.steps) (ha : D'.after = D.after) (hd : D'.dead = true) : StopInv n (i + 1) D' sure now where
  len := by rw [hc]; exact h.len
  cell := by rw [hc]; exact h.cell
  last := fun k => by rw [h.last k]; simp [Dsk.at, ho]
  keys := by rw [ho]; exact h.keys
  small := by rw [ho]; exact fun p hp => Nat.le_succ_of_le (h.small p hp)
  steps := by rw [hs, h.steps]; omega
  after := by rw [ha, h.after]; omega
  dead := by rw [hd]; simp; omega
theorem StopInv.write_no (h : StopInv n i D sure now) (hi : n ≤ i) (k : Int) (h0 : 0 ≤ k) (h1 : k < 16) (s : Sec) : D.writeE k = 220 ∧ StopInv n (i + 1) (D.write k s) sure now := by
  have hc := h.chk k h0 h1
  by_cases hd : n < i
  · rw [if_pos hd] at hc
    have e1 : D.writeE k = 220 := by simp [Dsk.writeE, hc]
    have e2 : D.write k s = D := by simp [Dsk.write, hc]
    rw [e2]
    exact ⟨e1, h.stop D hi rfl rfl rfl rfl (by rw [h.dead]; simp [hd])⟩
  · have hin : i = n := by omega
    rw [if_neg hd] at hc
    have hs := h.stpE (by omega)
    rw [if_pos hin] at hs
    have e1 : D.writeE k = 220 := by simp [Dsk.writeE, hc, hs]
    have ha0 : D.after = 0 := by rw [h.after]; omega
    have e2 : D.write k s = { D with dead := true } := by simp [Dsk.write, hc, hs, Dsk.stp, ha0]
    rw [e2]
    exact ⟨e1, h.stop _ hi rfl rfl rfl rfl rfl⟩
theorem StopInv.sync_no (h : StopInv n i D sure now) (hi : n ≤ i) : D.syncE = 220 ∧ StopInv n (i + 1) D.sync sure now := by
  have hc := h.chk 0 (by omega) (by omega)
  by_cases hd : n < i
  · rw [if_pos hd] at hc
    have e1 : D.syncE = 220 := by simp [Dsk.syncE, hc]
    have e2 : D.sync = D := by simp [Dsk.sync, hc]
    rw [e2]
    exact ⟨e1, h.stop D hi rfl rfl rfl rfl (by rw [h.dead]; simp [hd])⟩
  · have hin : i = n := by omega
    rw [if_neg hd] at hc
    have hs := h.stpE (by omega)
    rw [if_pos hin] at hs
    have e1 : D.syncE = 220 := by simp [Dsk.syncE, hc, hs]
    have ha0 : D.after = 0 := by rw [h.after]; omega
    have e2 : D.sync = { D with dead := true } := by simp [Dsk.sync, hc, hs, Dsk.stp, ha0]
    rw [e2]
    exact ⟨e1, h.stop _ hi rfl rfl rfl rfl rfl⟩
theorem StopInv.stp_yes (h : StopInv n i D sure now) (hi : i < n) (hn : n ≤ 255) : D.stp = { D with after := ((n - (i + 1) : Nat) : Int), steps := ((i + 1 : Nat) : Int) } := by
  have ha : ¬ D.after = 0 := by rw [h.after]; omega
  have hs : D.steps = (i : Int) := by rw [h.steps]; omega
  unfold Dsk.stp
  rw [if_neg ha, if_pos (by rw [h.after]; omega), h.after, hs, IntWalk.wrap64_in _ (by omega)]
  congr 1
  omega
theorem StopInv.write_yes (h : StopInv n i D sure now) (hi : i < n) (hn : n ≤ 255) (k : Int) (h0 : 0 ≤ k) (h1 : k < 16) (s : Sec) : D.writeE k = 0 ∧ StopInv n (i + 1) (D.write k s) sure (fun j => if j = k then some s else now j) := by
  have hc := h.chk k h0 h1
  rw [if_neg (by omega)] at hc
  have hs := h.stpE (by omega)
  rw [if_neg (by omega)] at hs
  have e1 : D.writeE k = 0 := by simp [Dsk.writeE, hc, hs]
  have e2 : D.write k s = { D.stp with opn := opnPut D.opn k s } := by simp [Dsk.write, hc, hs]
  rw [e2, h.stp_yes hi hn]
  refine ⟨e1, { len := h.len, cell := h.cell, last := fun j => ?_, keys := fun p hp => ?_, small := fun p hp => ?_, steps := by simp; omega, after := rfl, dead := by simp [h.dead]; omega }⟩
  · rw [at_put D _ k s rfl j]
    by_cases hj : j = k
    · rw [if_pos hj, if_pos hj]; simp
    · rw [if_neg hj, if_neg hj]; exact h.last j
  · rcases mem_opnPut _ _ _ _ hp with hp | ⟨q, hq, rfl⟩ | rfl
    · exact h.keys p hp
    · exact ⟨h0, h1, by simp⟩
    · exact ⟨h0, h1, by simp⟩
  · rcases mem_opnPut _ _ _ _ hp with hp | ⟨q, hq, rfl⟩ | rfl
    · exact Nat.le_succ_of_le (h.small p hp)
    · have := h.small q hq; simp; omega
    · simp
theorem StopInv.sync_yes (h : StopInv n i D sure now) (hi : i < n) (hn : n ≤ 255) : D.syncE = 0 ∧ StopInv n (i + 1) D.sync (fun j => if (now j).isSome then now j else sure j) (fun _ => none) := by
  have hc := h.chk 0 (by omega) (by omega)
  rw [if_neg (by omega)] at hc
  have hs := h.stpE (by omega)
  rw [if_neg (by omega)] at hs
  have e1 : D.syncE = 0 := by simp [Dsk.syncE, hc, hs]
  have e2 : D.sync = { D.stp with cells := D.flush, opn := [] } := by simp [Dsk.sync, hc, hs]
  rw [e2, h.stp_yes hi hn]
  refine ⟨e1, { len := by simp [Dsk.flush, h.len], cell := fun k hk => ?_, last := fun j => by simp [Dsk.at], keys := by simp, small := by simp, steps := by simp; omega, after := rfl, dead := by simp [h.dead]; omega }⟩
  have hck := h.cell k hk
  have hl := h.last k
  simp only [Dsk.flush, List.getElem?_map, List.getElem?_zipIdx, hck, Option.map_some, Nat.zero_add, Option.some.injEq]
  by_cases hat : D.at (k : Int) = []
  · rw [hat] at hl
    simp only [List.getLast?_nil] at hl
    simp [hat, hl]
  · rw [if_pos hat, hl, List.getLastD_eq_getLast?]
    obtain ⟨x, hx⟩ : ∃ x, (D.at (k : Int)).getLast? = some x := by
      cases hg : (D.at (k : Int)).getLast? with
      | none => exact absurd (List.getLast?_eq_none_iff.1 hg) hat
      | some x => exact ⟨x, rfl⟩
    simp [hx]
theorem StopInv.read3 (h : StopInv n i D sure now) : ((D.read 3).2 == 220) = decide (n < i) := by
  have hc := h.chk 3 (by omega) (by omega)
  by_cases hd : n < i
  · rw [if_pos hd] at hc
    simp [Dsk.read, hc, hd]
  · rw [if_neg hd] at hc
    have h3 := h.cell 3 (by omega)
    have : D.cell 3 = ((sure 3).getD zsec, false) := by
      unfold Dsk.cell
      rw [List.getD_eq_getElem?_getD]
      show (D.cells[3]?).getD _ = _
      rw [h3]; rfl
    simp [Dsk.read, hc, hd, Dsk.look, this]
    split <;> simp
theorem crashL_other (D : Dsk) (ks : List Int) (k : Nat) : ∀ (r : List Int) (m : Nat) (cells : List (Sec × Bool)), (∀ x ∈ r, x.toNat ≠ k) → (crashL D ks m r cells)[k]? = cells[k]?
  | [], _, _, _ => rfl
  | x :: r, m, cells, hr => by
    rw [crashL, crashL_other D ks k r (m + 1) _ (fun y hy => hr y (by simp [hy])), List.getElem?_set_ne (hr x (by simp))]
theorem StopInv.crash (h : StopInv n i D sure now) (ks : List Int) (k : Nat) (hk : k < 16) (hnow : now k = none) : (D.crash ks).read k = ((sure k).getD zsec, 0) := by
  have hat : D.at (k : Int) = [] := by
    have := h.last k
    rw [hnow] at this
    exact List.getLast?_eq_none_iff.1 this.symm
  have hcell : (D.crash ks).cells[k]? = some ((sure k).getD zsec, false) := by
    show (crashL D ks 0 D.keys D.cells)[k]? = _
    rw [crashL_other D ks k, h.cell k hk]
    intro x hx e
    rw [Dsk.keys, List.mem_mergeSort] at hx
    obtain ⟨p, hp, rfl⟩ := List.mem_map.1 hx
    have h1 := h.keys p hp
    have h2 : p.1 = (k : Int) := by omega
    unfold Dsk.at at hat
    cases hf : D.opn.find? (fun x => x.1 == (k : Int)) with
    | none => exact absurd h2 (by have := List.find?_eq_none.1 hf p hp; simpa using this)
    | some y =>
      rw [hf] at hat
      exact (h.keys y (List.mem_of_find?_eq_some hf)).2.2 (by simpa using hat)
  have hl : (D.crash ks).cells.length = 16 := by
    show (crashL D ks 0 D.keys D.cells).length = 16
    rw [length_crashL, h.len]
  have hd : (D.crash ks).dead = false := rfl
  have ho : (D.crash ks).opn = [] := rfl
  have hc : (D.crash ks).chk k = 0 := by
    unfold Dsk.chk
    rw [hd, hl]
    simp; omega
  have hcc : (D.crash ks).cell k = ((sure k).getD zsec, false) := by
    unfold Dsk.cell
    rw [List.getD_eq_getElem?_getD, Int.toNat_natCast, hcell]; rfl
  simp [Dsk.read, hc, Dsk.look, at_nil ho, hcc]
end

end Go.Proofs.Ytopeelclhpjngaa
