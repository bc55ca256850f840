/- Frames over whole blocks, and what a store leaves of a block. -/
import Derived.Test.YtopeelclhpjngaaBase
import Derived.Deep.Draws
namespace Go.Proofs.Ytopeelclhpjngaa
set_option linter.unusedSimpArgs false
set_option linter.unusedVariables false
open Go Go.ChangeMaps Go.RowKit

/-- From w to w' only blocks in F, and new ones, may have turned. -/
structure Kp (F : Nat → Prop) (w w' : World) : Prop where
  os : w'.os = w.os
  tape : w'.tape = w.tape
  output : w'.output = w.output
  size : w.heap.size ≤ w'.heap.size
  block : ∀ k, k < w.heap.size → ¬ F k → w'.heap[k]? = w.heap[k]?

theorem Kp.refl (F : Nat → Prop) (w : World) : Kp F w w := ⟨rfl, rfl, rfl, Nat.le_refl _, fun _ _ _ => rfl⟩
theorem Kp.trans {F F' : Nat → Prop} {a b c : World} (h : Kp F a b) (k : Kp F' b c) (hF : ∀ i, i < a.heap.size → F' i → F i) : Kp F a c :=
  ⟨k.os.trans h.os, k.tape.trans h.tape, k.output.trans h.output, Nat.le_trans h.size k.size,
    fun i hi hn => (k.block i (Nat.lt_of_lt_of_le hi h.size) (fun hf => hn (hF i hi hf))).trans (h.block i hi hn)⟩
theorem Kp.mono {F F' : Nat → Prop} {a b : World} (h : Kp F a b) (hF : ∀ i, i < a.heap.size → F i → F' i) : Kp F' a b :=
  ⟨h.os, h.tape, h.output, h.size, fun i hi hn => h.block i hi (fun hf => hn (hF i hi hf))⟩
theorem Kp.drew {F : Nat → Prop} {a w : World} (h : Kp F a w) : Kp F a w.drew := ⟨h.os, h.tape, h.output, h.size, h.block⟩
theorem Kp.drewN {F : Nat → Prop} {a w : World} (h : Kp F a w) (n : Nat) : Kp F a (w.drewN n) := ⟨h.os, h.tape, h.output, h.size, h.block⟩
theorem Kp.alloc {F : Nat → Prop} {a w : World} (h : Kp F a w) (o : Obj) : Kp F a (w.alloc o) :=
  h.trans (F' := fun _ => False) ⟨rfl, rfl, rfl, by simp, fun k hk _ => Below.heap_alloc _ _ _ hk⟩ (fun _ _ h => h.elim)
theorem Kp.setCell {F : Nat → Prop} {a w : World} (h : Kp F a w) {p : Addr} (hp : p.block < a.heap.size → F p.block) (u : Value) : Kp F a (w.setCell p u) :=
  h.trans (F' := fun k => k = p.block) ⟨rfl, rfl, rfl, by simp [World.setCell], fun k _ hk => Below.heap_setCell _ _ _ _ hk⟩ (fun i hi e => by subst e; exact hp hi)
theorem Kp.setBlock {F : Nat → Prop} {a w : World} (h : Kp F a w) {b : Nat} (hp : b < a.heap.size → F b) (o : Obj) : Kp F a (setBlock w b o) :=
  h.trans (F' := fun k => k = b) ⟨rfl, rfl, rfl, by simp [ChangeMaps.setBlock], fun k _ hk => by simp [ChangeMaps.setBlock, Array.getElem?_setIfInBounds, Ne.symm hk]⟩ (fun i hi e => by subst e; exact hp hi)
theorem Kp.grown {F : Nat → Prop} {a w w' : World} {row : Option Nat} (h : Kp F a w) (hg : w.grownBy w' row) (hr : ∀ k, row = some k → k < a.heap.size → F k) : Kp F a w' :=
  h.trans (F' := fun k => row = some k) ⟨hg.os, hg.tape, hg.output, hg.size, fun k hk hn => hg.block k hk (fun e => hn e.symm)⟩ (fun i hi e => hr i e hi)
theorem Kp.setCells {F : Nat → Prop} {a : World} {b : Nat} (hp : b < a.heap.size → F b) : ∀ (vs : List Value) (o : Nat) (w : World), Kp F a w → Kp F a (w.setCells b o vs)
  | [], _, _, h => h
  | v :: r, o, w, h => by rw [World.setCells]; exact Kp.setCells hp r (o + 1) _ (h.setCell (p := ⟨b, o, none⟩) hp v)
theorem Kp.below {w w' : World} (h : Kp (fun _ => False) w w') : Below w.heap.size w w' :=
  ⟨h.os, h.tape, h.output, h.size, fun k hk => h.block k hk (fun e => e)⟩
theorem Kp.of_below {w w' : World} (h : Below w.heap.size w w') (F : Nat → Prop) : Kp F w w' := ⟨h.os, h.tape, h.output, h.size, fun k hk _ => h.block k hk⟩
theorem Kp.heap {F : Nat → Prop} {w w' : World} (h : Kp F w w') {k : Nat} {o : Obj} (hk : w.heap[k]? = some o) (hn : ¬ F k) : w'.heap[k]? = some o :=
  (h.block k (Array.getElem?_eq_some_iff.1 hk).1 hn).trans hk

theorem lt_of_heap {w : World} {k : Nat} {o : Obj} (h : w.heap[k]? = some o) : k < w.heap.size := (Array.getElem?_eq_some_iff.1 h).1

theorem cell_of {w : World} {b : Nat} {C : Array Value} {t : TypeId} {fr : Nat × Nat} (h : w.heap[b]? = some (.cells C t fr)) (o : Nat) : w.cell? ⟨b, o, none⟩ = C[o]? := by
  simp [World.cell?, h]
theorem free_of {w : World} {b : Nat} {C : Array Value} {t : TypeId} (h : w.heap[b]? = some (.cells C t (0, 0))) (o : Nat) : w.frozen? ⟨b, o, none⟩ = false := by
  simp [World.frozen?, h]

theorem heap_setCell_same {w : World} {b o : Nat} {C : Array Value} {t : TypeId} {fr : Nat × Nat} (h : w.heap[b]? = some (.cells C t fr)) (v : Value) :
    (w.setCell ⟨b, o, none⟩ v).heap[b]? = some (.cells (C.setIfInBounds o v) t fr) := by
  simp [World.setCell, Array.getElem?_modify, h]
theorem heap_setCell_ne {w : World} {a : Addr} {k : Nat} (h : k ≠ a.block) (v : Value) : (w.setCell a v).heap[k]? = w.heap[k]? := Below.heap_setCell _ _ _ _ h
theorem heap_setBlock_same {w : World} {b : Nat} {o o' : Obj} (h : w.heap[b]? = some o) : (setBlock w b o').heap[b]? = some o' := by
  have := lt_of_heap h
  simp [setBlock, this]
theorem heap_setBlock_ne {w : World} {b k : Nat} (h : k ≠ b) (o : Obj) : (setBlock w b o).heap[k]? = w.heap[k]? := by
  simp [setBlock, Array.getElem?_setIfInBounds, Ne.symm h]

/-- A list with a part written over. -/
def over (C : List Value) (o : Nat) (vs : List Value) : List Value := C.take o ++ vs ++ C.drop (o + vs.length)
theorem over_cons (C : List Value) (o : Nat) (v : Value) (vs : List Value) (h : o + (v :: vs).length ≤ C.length) : over (C.set o v) (o + 1) vs = over C o (v :: vs) := by
  simp only [List.length_cons] at h
  simp only [over]
  have h1 : (C.set o v).take (o + 1) = C.take o ++ [v] := by
    rw [List.take_add_one, List.take_set_of_le (Nat.le_refl o)]
    simp [show o < C.length by omega]
  have h2 : (C.set o v).drop (o + 1 + vs.length) = C.drop (o + (v :: vs).length) := by
    rw [List.drop_set_of_lt (by omega)]
    simp only [List.length_cons]
    congr 1; omega
  rw [h1, h2]
  simp
theorem length_over (C : List Value) (o : Nat) (vs : List Value) (h : o + vs.length ≤ C.length) : (over C o vs).length = C.length := by
  simp [over]; omega

theorem heap_setCells_same {b : Nat} {t : TypeId} {fr : Nat × Nat} : ∀ (vs : List Value) (o : Nat) (w : World) (C : List Value), w.heap[b]? = some (.cells C.toArray t fr) → o + vs.length ≤ C.length →
    (w.setCells b o vs).heap[b]? = some (.cells (over C o vs).toArray t fr)
  | [], o, w, C, h, _ => by simp [World.setCells, over, h]
  | v :: r, o, w, C, h, hl => by
    rw [World.setCells, ← over_cons C o v r hl]
    refine heap_setCells_same r (o + 1) _ (C.set o v) ?_ (by simp at hl ⊢; omega)
    rw [heap_setCell_same h]
    simp [List.setIfInBounds_toArray]
theorem heap_setCells_ne {b k : Nat} (hk : k ≠ b) : ∀ (vs : List Value) (o : Nat) (w : World), (w.setCells b o vs).heap[k]? = w.heap[k]?
  | [], _, _ => rfl
  | v :: r, o, w => by rw [World.setCells, heap_setCells_ne hk r]; exact heap_setCell_ne (a := ⟨b, o, none⟩) hk v
theorem size_setCells {b : Nat} : ∀ (vs : List Value) (o : Nat) (w : World), (w.setCells b o vs).heap.size = w.heap.size
  | [], _, _ => rfl
  | v :: r, o, w => by rw [World.setCells, size_setCells r]; simp
theorem size_setBlock (w : World) (b : Nat) (o : Obj) : (setBlock w b o).heap.size = w.heap.size := by simp [setBlock]

/-- A part of a block that is known whole. -/
theorem rangeAt_of {w : World} {b : Nat} {C : List Value} {t : TypeId} {fr : Nat × Nat} (h : w.heap[b]? = some (.cells C.toArray t fr)) (o : Nat) (cs : List Value) (hc : (C.drop o).take cs.length = cs) : w.rangeAt b o cs := by
  intro j v hv
  rw [cell_of h]
  rw [← hc, List.getElem?_take] at hv
  split at hv
  · simpa using hv
  · cases hv
theorem there_of {w : World} {b : Nat} {C : List Value} {t : TypeId} (h : w.heap[b]? = some (.cells C.toArray t (0, 0))) (o n : Nat) (hn : o + n ≤ C.length) : w.there b o n := by
  intro j hj
  rw [cell_of h, free_of h]
  exact ⟨by simp [show o + j < C.length by omega], rfl⟩

end Go.Proofs.Ytopeelclhpjngaa
