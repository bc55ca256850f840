/- Maps from numbers to sectors. -/
import Derived.Test.YtopeelclhpjngaaLawE
namespace Go.Proofs.Ytopeelclhpjngaa
set_option linter.unusedSimpArgs false
set_option linter.unusedVariables false
open Go Go.ChangeMaps Go.RowKit Go.Proofs

abbrev SMap := List (Int × Sec × Nat)
def SMap.i (l : SMap) : IMap := l.map (fun x => (x.1, bv x.2.1, x.2.2))
def SMap.get (l : SMap) (k : Int) : Option Sec := (l.find? (fun x => x.1 == k)).map (·.2.1)
def SMap.set (k : Int) (s : Sec) : SMap → SMap
  | [] => []
  | x :: r => if x.1 == k then (x.1, s, x.2.2) :: r else x :: SMap.set k s r
def SMap.put (l : SMap) (k : Int) (s : Sec) (clock : Nat) : SMap := if l.any (fun x => x.1 == k) then SMap.set k s l else l ++ [(k, s, clock)]
def mO (l : SMap) (clock : Nat) : Obj := .map l.i.arr clock

theorem SMap.get_i (l : SMap) (k : Int) : IMap.get l.i k = (l.get k).map bv := by
  simp only [IMap.get, SMap.get, SMap.i, List.find?_map, Function.comp_def, Option.map_map]
theorem SMap.any_i (l : SMap) (k : Int) : l.i.any (fun x => x.1 == k) = l.any (fun x => x.1 == k) := by
  simp [SMap.i, List.any_map, Function.comp_def]
theorem SMap.set_i (k : Int) (s : Sec) : ∀ l : SMap, IMap.set k (bv s) l.i = (SMap.set k s l).i
  | [] => rfl
  | x :: r => by
    have ih := SMap.set_i k s r
    simp only [SMap.i, List.map_cons, IMap.set, SMap.set] at ih ⊢
    by_cases hx : (x.1 == k) = true
    · have : x.1 = k := by simpa using hx
      simp [this]
    · simp only [Bool.not_eq_true] at hx
      simp only [hx, Bool.false_eq_true, if_false, List.map_cons]
      rw [ih]
theorem SMap.put_i (l : SMap) (k : Int) (s : Sec) (clock : Nat) : IMap.put l.i k (bv s) clock = (l.put k s clock).i := by
  unfold IMap.put SMap.put
  rw [SMap.any_i]
  split
  · exact SMap.set_i k s l
  · simp [SMap.i]
theorem SMap.get_set (k : Int) (s : Sec) : ∀ (l : SMap) (j : Int), (SMap.set k s l).get j = if j = k then (l.get j).map (fun _ => s) else l.get j
  | [], j => by simp [SMap.set, SMap.get]
  | x :: r, j => by
    have ih := SMap.get_set k s r j
    by_cases hx : x.1 = k
    · subst hx
      simp only [SMap.set, beq_self_eq_true, if_true, SMap.get, List.find?_cons]
      by_cases hj : j = x.1
      · subst hj; simp
      · have h1 : (x.1 == j) = false := by simpa using fun e => hj e.symm
        simp [h1, hj]
    · have hb : (x.1 == k) = false := by simpa using hx
      simp only [SMap.set, hb, Bool.false_eq_true, if_false, SMap.get, List.find?_cons] at ih ⊢
      by_cases hxj : x.1 = j
      · have hjk : ¬ j = k := fun e => hx (hxj.trans e)
        simp [hxj, hjk]
      · have h2 : (x.1 == j) = false := by simpa using hxj
        rw [h2]
        exact ih
theorem SMap.get_put (l : SMap) (k : Int) (s : Sec) (clock : Nat) (j : Int) : (l.put k s clock).get j = if j = k then some s else l.get j := by
  unfold SMap.put
  by_cases ha : l.any (fun x => x.1 == k) = true
  · rw [if_pos ha, SMap.get_set]
    by_cases hj : j = k
    · subst hj
      rw [if_pos rfl, if_pos rfl]
      obtain ⟨x, hx, hxj⟩ := List.any_eq_true.1 ha
      unfold SMap.get
      cases hf : l.find? (fun x => x.1 == j) with
      | none => exact absurd hxj (by have := List.find?_eq_none.1 hf x hx; simpa using this)
      | some y => rfl
    · rw [if_neg hj, if_neg hj]
  · rw [if_neg ha]
    have hn : ∀ x ∈ l, ¬ x.1 = k := fun x hx e => ha (List.any_eq_true.2 ⟨x, hx, by simpa using e⟩)
    unfold SMap.get
    rw [List.find?_append]
    by_cases hj : j = k
    · subst hj
      have : l.find? (fun x => x.1 == j) = none := List.find?_eq_none.2 (fun x hx => by simpa using hn x hx)
      simp [this]
    · have h1 : (k == j) = false := by simpa using fun e => hj e.symm
      simp [hj, h1]

/-- The map is one that Go can hold: its keys are apart, its entries of times before now. -/
structure SMap.Ok (l : SMap) (clock : Nat) : Prop where
  keys : (l.map (·.1)).Nodup
  borns : (l.map (·.2.2)).Nodup
  young : ∀ x ∈ l, x.2.2 < clock
theorem SMap.ok_nil : SMap.Ok [] 0 := ⟨by simp, by simp, by simp⟩
theorem SMap.set_keys (k : Int) (s : Sec) : ∀ l : SMap, (SMap.set k s l).map (·.1) = l.map (·.1) ∧ (SMap.set k s l).map (·.2.2) = l.map (·.2.2)
  | [] => ⟨rfl, rfl⟩
  | x :: r => by
    have ih := SMap.set_keys k s r
    unfold SMap.set
    split
    · simp
    · simp [ih.1, ih.2]
theorem SMap.Ok.put {l : SMap} {clock : Nat} (h : SMap.Ok l clock) (k : Int) (s : Sec) : SMap.Ok (l.put k s clock) (IMap.tick l.i k clock) := by
  unfold SMap.put IMap.tick
  rw [SMap.any_i]
  by_cases ha : l.any (fun x => x.1 == k) = true
  · rw [if_pos ha, if_pos ha]
    have e := SMap.set_keys k s l
    refine ⟨by rw [e.1]; exact h.keys, by rw [e.2]; exact h.borns, fun x hx => ?_⟩
    have : x.2.2 ∈ (SMap.set k s l).map (·.2.2) := List.mem_map.2 ⟨x, hx, rfl⟩
    rw [e.2] at this
    obtain ⟨y, hy, hyx⟩ := List.mem_map.1 this
    rw [← hyx]
    exact h.young y hy
  · rw [if_neg ha, if_neg ha]
    have hn : ∀ x ∈ l, ¬ x.1 = k := fun x hx e => ha (List.any_eq_true.2 ⟨x, hx, by simpa using e⟩)
    refine ⟨?_, ?_, fun x hx => ?_⟩
    · rw [List.map_append, List.nodup_append]
      refine ⟨h.keys, by simp, fun a ha b hb => ?_⟩
      obtain ⟨x, hx, rfl⟩ := List.mem_map.1 ha
      simp at hb
      rw [hb]; exact hn x hx
    · rw [List.map_append, List.nodup_append]
      refine ⟨h.borns, by simp, fun a ha b hb => ?_⟩
      obtain ⟨x, hx, rfl⟩ := List.mem_map.1 ha
      simp at hb
      have := h.young x hx
      omega
    · rcases List.mem_append.1 hx with hx | hx
      · exact Nat.lt_succ_of_lt (h.young x hx)
      · simp at hx; rw [hx]; exact Nat.lt_succ_self _
theorem SMap.get_mem {l : SMap} (h : (l.map (·.1)).Nodup) {x : Int × Sec × Nat} (hx : x ∈ l) : l.get x.1 = some x.2.1 := by
  induction l with
  | nil => simp at hx
  | cons a r ih =>
    simp only [List.map_cons, List.nodup_cons] at h
    unfold SMap.get
    rw [List.find?_cons]
    rcases List.mem_cons.1 hx with e | hx
    · subst e; simp
    · have hne : ¬ a.1 = x.1 := fun e => h.1 (List.mem_map.2 ⟨x, hx, e.symm⟩)
      have hb : (a.1 == x.1) = false := by simpa using hne
      rw [hb]
      exact ih h.2 hx
theorem SMap.mem_get {l : SMap} {k : Int} {s : Sec} (h : l.get k = some s) : ∃ x ∈ l, x.1 = k ∧ x.2.1 = s := by
  unfold SMap.get at h
  obtain ⟨x, hf, hs⟩ := Option.map_eq_some_iff.1 h
  exact ⟨x, List.mem_of_find?_eq_some hf, by simpa using List.find?_some hf, hs⟩

end Go.Proofs.Ytopeelclhpjngaa
