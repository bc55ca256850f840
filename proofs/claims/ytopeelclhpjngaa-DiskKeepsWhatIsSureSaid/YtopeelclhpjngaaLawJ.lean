/- The variables of 'written', and what an append and a sync leave of them. -/
import Derived.Test.YtopeelclhpjngaaLawI
namespace Go.Proofs.Ytopeelclhpjngaa
set_option linter.unusedSimpArgs false
set_option linter.unusedVariables false
open Go Go.ChangeMaps Go.RowKit Go.Proofs

def o42 (sure : List Sec) : Obj := .cells (flatS sure).toArray 42 (0, 0)
def o44 (vals : List Value) : Obj := .cells vals.toArray 44 (0, 0)
abbrev z16 : List Sec := List.replicate 16 zsec
def n16 : List Value := List.replicate 16 (.slice none 0 0)
theorem length_n16 : n16.length = 16 := by simp [n16]

structure WrM (w : World) (r5 r6 r8 r9 : Nat) (sure : List Sec) (vals : List Value) (L : List (List Sec)) : Prop where
  h5 : w.heap[r5]? = some (o42 z16)
  h6 : w.heap[r6]? = some (o44 n16)
  h8 : w.heap[r8]? = some (o42 sure)
  h9 : w.heap[r9]? = some (o44 vals)
  n58 : r5 ≠ r8
  n69 : r6 ≠ r9
  rows : Rows w vals L
def KW (r5 r6 r8 r9 : Nat) (vals : List Value) (k : Nat) : Prop := k = r5 ∨ k = r6 ∨ k = r8 ∨ k = r9 ∨ KR vals k

section
variable {wz w : World} {b r5 r6 r8 r9 : Nat} {D : Dsk} {sure : List Sec} {vals : List Value} {L : List (List Sec)}
theorem WrM.kept (h : WrM w r5 r6 r8 r9 sure vals L) {w' : World} (hk : ∀ k, KW r5 r6 r8 r9 vals k → w'.heap[k]? = w.heap[k]?) : WrM w' r5 r6 r8 r9 sure vals L where
  h5 := (hk r5 (.inl rfl)).trans h.h5
  h6 := (hk r6 (.inr (.inl rfl))).trans h.h6
  h8 := (hk r8 (.inr (.inr (.inl rfl)))).trans h.h8
  h9 := (hk r9 (.inr (.inr (.inr (.inl rfl))))).trans h.h9
  n58 := h.n58
  n69 := h.n69
  rows := h.rows.kept (fun k hK => hk k (.inr (.inr (.inr (.inr hK)))))
theorem WrM.lt (h : WrM w r5 r6 r8 r9 sure vals L) {k : Nat} (hk : KW r5 r6 r8 r9 vals k) : k < w.heap.size := by
  rcases hk with rfl | rfl | rfl | rfl | ⟨v, hv, hg⟩
  · exact lt_of_heap h.h5
  · exact lt_of_heap h.h6
  · exact lt_of_heap h.h8
  · exact lt_of_heap h.h9
  · obtain ⟨i, hi, hiv⟩ := List.getElem_of_mem hv
    obtain ⟨v', s, h1, h2, h3⟩ := h.rows.val i (by rw [← h.rows.lv]; exact hi)
    rw [List.getElem?_eq_getElem hi, hiv] at h1
    cases h1
    obtain ⟨C, hC⟩ := own_lt h3 hg
    exact lt_of_heap hC
theorem WrM.quiet (h : WrM w r5 r6 r8 r9 sure vals L) {w' : World} (hk : Kp (fun _ => False) w w') : WrM w' r5 r6 r8 r9 sure vals L :=
  h.kept (fun k hK => hk.block k (h.lt hK) (fun e => e))
/-- A row's block is none of the variables. -/
theorem WrM.far (h : WrM w r5 r6 r8 r9 sure vals L) {g : Nat} (hg : KR vals g) : g ≠ r5 ∧ g ≠ r6 ∧ g ≠ r8 ∧ g ≠ r9 := by
  obtain ⟨v, hv, hg⟩ := hg
  obtain ⟨i, hi, hiv⟩ := List.getElem_of_mem hv
  obtain ⟨v', s, h1, h2, h3⟩ := h.rows.val i (by rw [← h.rows.lv]; exact hi)
  rw [List.getElem?_eq_getElem hi, hiv] at h1
  cases h1
  obtain ⟨C, hC⟩ := own_lt h3 hg
  refine ⟨?_, ?_, ?_, ?_⟩ <;> rintro rfl
  · rw [h.h5] at hC; simp [o42] at hC
  · rw [h.h6] at hC; simp [o44] at hC
  · rw [h.h8] at hC; simp [o42] at hC
  · rw [h.h9] at hC; simp [o44] at hC
theorem WrM.ne89 (h : WrM w r5 r6 r8 r9 sure vals L) : r8 ≠ r9 ∧ r5 ≠ r9 ∧ r6 ≠ r8 ∧ r5 ≠ r6 := by
  refine ⟨?_, ?_, ?_, ?_⟩ <;> intro e
  · have h1 := h.h8; rw [e, h.h9] at h1; simp [o42, o44] at h1
  · have h1 := h.h5; rw [e, h.h9] at h1; simp [o42, o44] at h1
  · have h1 := h.h6; rw [e, h.h8] at h1; simp [o42, o44] at h1
  · have h1 := h.h5; rw [e, h.h6] at h1; simp [o42, o44] at h1

/-- Behind an append to one row, and its store. -/
theorem wr_append (hM : WrM w r5 r6 r8 r9 sure vals L) (hS : SanK wz w b D (KW r5 r6 r8 r9 vals)) (k : Nat) (hk16 : k < 16) (v : Value) (hv : vals[k]? = some v) (t : List Sec) (s : Sec) (w7 : World) (gg cap : Nat)
    (hk : Kp (fun k => v.ownBlock = some k) w w7) (hown : w7.ownsRow 0 33 64 (.slice (some ⟨gg, 0, none⟩) (t.length + 1) cap) (t.length + 1) (flatS t ++ bcells s)) (hat : v.ownBlock = some gg ∨ w.heap.size ≤ gg) (hlt : gg < w7.heap.size) :
    WrM (w7.setCell ⟨r9, k, none⟩ (.slice (some ⟨gg, 0, none⟩) (t.length + 1) cap)) r5 r6 r8 r9 sure (vals.set k (.slice (some ⟨gg, 0, none⟩) (t.length + 1) cap)) (L.set k (t ++ [s])) ∧
      SanK wz (w7.setCell ⟨r9, k, none⟩ (.slice (some ⟨gg, 0, none⟩) (t.length + 1) cap)) b D (KW r5 r6 r8 r9 (vals.set k (.slice (some ⟨gg, 0, none⟩) (t.length + 1) cap))) := by
  obtain ⟨u, hu⟩ : ∃ u : Value, u = .slice (some ⟨gg, 0, none⟩) (t.length + 1) cap := ⟨_, rfl⟩
  have huo : u.ownBlock = some gg := by rw [hu]; rfl
  rw [← hu] at hown ⊢
  have hvm : ∀ g, v.ownBlock = some g → KR vals g := fun g hg => ⟨v, List.mem_of_getElem? hv, hg⟩
  have hn := hM.ne89
  have h9 : w7.heap[r9]? = some (o44 vals) := hk.heap hM.h9 (fun e => (hM.far (hvm _ e)).2.2.2 rfl)
  have hgr : gg ≠ r9 := by
    rcases hat with e | e
    · exact (hM.far (hvm _ e)).2.2.2
    · have := lt_of_heap hM.h9; omega
  have hkk : Kp (fun k => k = r9 ∨ v.ownBlock = some k) w (w7.setCell ⟨r9, k, none⟩ u) := (hk.mono (fun _ _ h => .inr h)).setCell (p := ⟨r9, k, none⟩) (fun _ => .inl rfl) u
  refine ⟨{ h5 := ?_, h6 := ?_, h8 := ?_, h9 := ?_, n58 := hM.n58, n69 := hM.n69, rows := ?_ }, ?_⟩
  · exact hkk.heap hM.h5 (fun e => e.elim hn.2.1 (fun e => (hM.far (hvm _ e)).1 rfl))
  · exact hkk.heap hM.h6 (fun e => e.elim hM.n69 (fun e => (hM.far (hvm _ e)).2.1 rfl))
  · exact hkk.heap hM.h8 (fun e => e.elim hn.1 (fun e => (hM.far (hvm _ e)).2.2.1 rfl))
  · rw [heap_setCell_same h9]; simp [o44, List.setIfInBounds_toArray]
  · refine hM.rows.put k hk16 v u (t ++ [s]) hv ?_ (fun g hg hne => ?_) (fun g hg => ?_)
    · rw [flatS_append, flatS_one, List.length_append, List.length_singleton]
      exact own_step hown (fun g hg => heap_setCell_ne (a := ⟨r9, k, none⟩) (by rw [huo] at hg; cases hg; exact hgr) u)
    · exact hkk.block g (hM.lt (.inr (.inr (.inr (.inr hg))))) (fun e => e.elim (hM.far hg).2.2.2 hne)
    · rw [huo] at hg; cases hg; exact hat
  · refine hS.add (hkk.mono (fun k _ e => e.elim (fun e => .inr (.inr (.inr (.inl e)))) (fun e => .inr (.inr (.inr (.inr (hvm _ e))))))) _ ?_
    rintro g (rfl | rfl | rfl | rfl | ⟨x, hx, hg⟩)
    · exact .inl (.inl rfl)
    · exact .inl (.inr (.inl rfl))
    · exact .inl (.inr (.inr (.inl rfl)))
    · exact .inl (.inr (.inr (.inr (.inl rfl))))
    · rcases List.mem_or_eq_of_mem_set hx with hx | rfl
      · exact .inl (.inr (.inr (.inr (.inr ⟨x, hx, hg⟩))))
      · rw [huo] at hg; cases hg
        rcases hat with e | e
        · exact .inl (.inr (.inr (.inr (.inr (hvm _ e)))))
        · exact .inr ⟨e, by simpa using hlt⟩

/-- Behind the sync of one row. -/
theorem wr_flush (hM : WrM w r5 r6 r8 r9 sure vals L) (hS : SanK wz w b D (KW r5 r6 r8 r9 vals)) (hs16 : sure.length = 16) (i : Nat) (hi : i < 16) (s : Sec) :
    WrM ((w.setCells r8 (i * 64) (bcells s)).setCell ⟨r9, i, none⟩ (.slice none 0 0)) r5 r6 r8 r9 (sure.set i s) (vals.set i (.slice none 0 0)) (L.set i []) ∧
      SanK wz ((w.setCells r8 (i * 64) (bcells s)).setCell ⟨r9, i, none⟩ (.slice none 0 0)) b D (KW r5 r6 r8 r9 (vals.set i (.slice none 0 0))) := by
  have hn := hM.ne89
  obtain ⟨v, t, hv, ht, hown⟩ := hM.rows.val i hi
  have hkk : Kp (fun k => k = r8 ∨ k = r9) w ((w.setCells r8 (i * 64) (bcells s)).setCell ⟨r9, i, none⟩ (.slice none 0 0)) :=
    (Kp.setCells (F := fun k => k = r8 ∨ k = r9) (fun _ => .inl rfl) _ _ _ (Kp.refl _ _)).setCell (p := ⟨r9, i, none⟩) (fun _ => .inr rfl) _
  refine ⟨{ h5 := ?_, h6 := ?_, h8 := ?_, h9 := ?_, n58 := hM.n58, n69 := hM.n69, rows := ?_ }, ?_⟩
  · exact hkk.heap hM.h5 (fun e => e.elim hM.n58 hn.2.1)
  · exact hkk.heap hM.h6 (fun e => e.elim hn.2.2.1 hM.n69)
  · rw [heap_setCell_ne (a := ⟨r9, i, none⟩) hn.1]
    rw [heap_setCells_same (bcells s) (i * 64) w (flatS sure) hM.h8 (by rw [length_flatS, length_bcells]; omega)]
    rw [flatS, flat_over bcells 64 length_bcells sure i s (by omega)]
    rfl
  · have : (w.setCells r8 (i * 64) (bcells s)).heap[r9]? = some (o44 vals) := (heap_setCells_ne (Ne.symm hn.1) _ _ _).trans hM.h9
    rw [heap_setCell_same this]; simp [o44, List.setIfInBounds_toArray]
  · refine hM.rows.put i hi v _ [] hv (own_nil _ _ _) (fun g hg _ => ?_) (fun g hg => by cases hg)
    exact hkk.block g (hM.lt (.inr (.inr (.inr (.inr hg))))) (fun e => e.elim (hM.far hg).2.2.1 (hM.far hg).2.2.2)
  · refine hS.add (hkk.mono (fun k _ e => e.elim (fun e => .inr (.inr (.inl e))) (fun e => .inr (.inr (.inr (.inl e)))))) _ ?_
    rintro g (rfl | rfl | rfl | rfl | ⟨x, hx, hg⟩)
    · exact .inl (.inl rfl)
    · exact .inl (.inr (.inl rfl))
    · exact .inl (.inr (.inr (.inl rfl)))
    · exact .inl (.inr (.inr (.inr (.inl rfl))))
    · rcases List.mem_or_eq_of_mem_set hx with hx | rfl
      · exact .inl (.inr (.inr (.inr (.inr ⟨x, hx, hg⟩))))
      · cases hg

/-- The variables as they are made. -/
theorem WrM.start {w1 w3 : World} (hkp : Kp (fun _ => False) wz w1) (hS : SanK wz w3 b D (fun k => k = w1.heap.size ∨ k = w1.heap.size + 1))
    (hk : ∀ k, (k = w1.heap.size ∨ k = w1.heap.size + 1) → w3.heap[k]? = ((w1.alloc (o42 z16)).alloc (o44 n16)).heap[k]?) :
    WrM ((w3.alloc (o42 z16)).alloc (o44 n16)) w1.heap.size (w1.heap.size + 1) w3.heap.size (w3.heap.size + 1) z16 n16 (List.replicate 16 []) ∧
      SanK wz ((w3.alloc (o42 z16)).alloc (o44 n16)) b D (KW w1.heap.size (w1.heap.size + 1) w3.heap.size (w3.heap.size + 1) n16) := by
  have a1 : ((w1.alloc (o42 z16)).alloc (o44 n16)).heap[w1.heap.size]? = some (o42 z16) := (Below.heap_alloc _ _ _ (by simp)).trans (heap_alloc_new w1 _)
  have a2 : ((w1.alloc (o42 z16)).alloc (o44 n16)).heap[w1.heap.size + 1]? = some (o44 n16) := by
    have := heap_alloc_new (w1.alloc (o42 z16)) (o44 n16)
    rwa [World.size_alloc] at this
  have a3 : ((w3.alloc (o42 z16)).alloc (o44 n16)).heap[w3.heap.size]? = some (o42 z16) := (Below.heap_alloc _ _ _ (by simp)).trans (heap_alloc_new w3 _)
  have a4 : ((w3.alloc (o42 z16)).alloc (o44 n16)).heap[w3.heap.size + 1]? = some (o44 n16) := by
    have := heap_alloc_new (w3.alloc (o42 z16)) (o44 n16)
    rwa [World.size_alloc] at this
  have l5 := hS.lt (k := w1.heap.size) (.inl rfl)
  have l6 := hS.lt (k := w1.heap.size + 1) (.inr rfl)
  have hkp2 : Kp (fun _ => False) w3 ((w3.alloc (o42 z16)).alloc (o44 n16)) := ((Kp.refl _ w3).alloc _).alloc _
  refine ⟨{ h5 := ?_, h6 := ?_, h8 := a3, h9 := a4, n58 := by omega, n69 := by omega, rows := Rows.nils _ }, ?_⟩
  · exact hkp2.heap ((hk _ (.inl rfl)).trans a1) (fun e => e)
  · exact hkp2.heap ((hk _ (.inr rfl)).trans a2) (fun e => e)
  · refine hS.add (hkp2.mono (fun _ _ e => e.elim)) _ ?_
    rintro g (rfl | rfl | rfl | rfl | ⟨x, hx, hg⟩)
    · exact .inl (.inl rfl)
    · exact .inl (.inr rfl)
    · exact .inr ⟨Nat.le_refl _, by simp; omega⟩
    · exact .inr ⟨by omega, by simp⟩
    · rw [List.eq_of_mem_replicate hx] at hg; cases hg
end

end Go.Proofs.Ytopeelclhpjngaa
