/- DiskKeepsWhatIsSure, without memory. -/
import Derived.Test.YtopeelclhpjngaaLawI
namespace Go.Proofs.Ytopeelclhpjngaa
set_option linter.unusedSimpArgs false
set_option linter.unusedVariables false
open Go Go.ChangeMaps Go.RowKit Go.Proofs

/-- What a sector with open writes 't', that was 'sure', may be behind a failure. -/
def Poss (s : Sec) (e : Int) (sure : Sec) (t : List Sec) : Prop :=
  (e = 221 ∧ s = zsec) ∨ (e = 0 ∧ (s = sure ∨ s ∈ t ∨ s = tornS (t.getLastD zsec) (if 1 < t.length then t.getD (t.length - 2) zsec else sure)))

theorem poss_found (sure : Sec) (t : List Sec) (ht : t ≠ []) (x : Int) (c : Sec × Bool) (hc : c = foundC (sure, false) t x) : Poss (if c.2 then zsec else c.1) (if c.2 then 221 else 0) sure t := by
  subst hc
  have hb := foundR_bounds x t.length
  have hl : 0 < t.length := List.length_pos_iff.2 ht
  unfold foundC
  by_cases h0 : foundR x t.length = 0
  · rw [if_pos h0]; exact .inr ⟨rfl, .inl rfl⟩
  · rw [if_neg h0]
    by_cases h1 : foundR x t.length ≤ t.length
    · rw [if_pos h1]
      refine .inr ⟨rfl, .inr (.inl ?_)⟩
      have hi : (foundR x t.length - 1).toNat < t.length := by omega
      simp only [Bool.false_eq_true, if_false]
      rw [List.getD_eq_getElem?_getD, List.getElem?_eq_getElem hi, Option.getD_some]
      exact List.getElem_mem hi
    · rw [if_neg h1]
      by_cases h2 : foundR x t.length = t.length + 1
      · rw [if_pos h2]; exact .inl ⟨rfl, rfl⟩
      · rw [if_neg h2]
        refine .inr ⟨rfl, .inr (.inr ?_)⟩
        simp only [Bool.false_eq_true, if_false]
        have e1 : t.getLastD zsec = t.getD (t.length - 1) zsec := by rw [List.getLastD_eq_getLast?, List.getLast?_eq_getElem?, List.getD_eq_getElem?_getD]
        rw [e1]

theorem crashL_key (D : Dsk) (ks : List Int) (k : Nat) : ∀ (r : List Int) (n : Nat) (cells : List (Sec × Bool)), (∀ x ∈ r, 0 ≤ x) → (k : Int) ∈ r → k < cells.length →
    ∃ X, (crashL D ks n r cells)[k]? = some (foundC (D.cells.getD k (zsec, false)) (D.at (k : Int)) X)
  | [], _, _, _, h, _ => by simp at h
  | x :: r, n, cells, h0, hk, hl => by
    rw [crashL]
    by_cases hr : (k : Int) ∈ r
    · exact crashL_key D ks k r (n + 1) _ (fun y hy => h0 y (by simp [hy])) hr (by simpa using hl)
    · have hx : x = (k : Int) := by
        rcases List.mem_cons.1 hk with h | h
        · exact h.symm
        · exact absurd h hr
      subst hx
      refine ⟨keepX ks n, ?_⟩
      rw [crashL_other D ks k r (n + 1) _ (fun y hy e => hr (by have := h0 y (by simp [hy]); have : y = (k : Int) := by omega
                                                                rw [← this]; exact hy))]
      rw [Int.toNat_natCast, List.getElem?_set_self hl]

/-- What DiskKeepsWhatIsSure sees of the disk that is found. -/
structure KpF (D C : Dsk) (sure : List Sec) (L : List (List Sec)) : Prop where
  len : C.cells.length = 16
  dead : C.dead = false
  steps : C.steps = 0
  opns : C.opens = []
  opn : C.opn = []
  small : ∀ p ∈ D.opn, p.2.length < 1073741824
  few : ∀ (k : Nat) t, L[k]? = some t → t.length < 1000
  sur : ∀ (k : Nat) (s : Sec), k < 16 → sure[k]? = some s → L[k]? = some [] → C.read (k : Int) = (s, 0)
  poss : ∀ (k : Nat) (s : Sec) t, k < 16 → sure[k]? = some s → L[k]? = some t → t ≠ [] → Poss (C.read (k : Int)).1 (C.read (k : Int)).2 s t
  last : ∀ (k : Nat) t, k < 16 → L[k]? = some t → t ≠ [] → D.read (k : Int) = (t.getLastD zsec, 0)

theorem WInv.keeps {m : Nat} {D : Dsk} {sure : List Sec} {L : List (List Sec)} (h : WInv m D sure L) (hm : m ≤ 40) (ks : List Int) : KpF D (D.crash ks) sure L := by
  have hcl : (D.crash ks).cells.length = 16 := by
    show (crashL D ks 0 D.keys D.cells).length = 16
    rw [length_crashL, h.len]
  have hchk : ∀ k : Nat, k < 16 → (D.crash ks).chk (k : Int) = 0 := fun k hk => by
    unfold Dsk.chk
    rw [hcl, show (D.crash ks).dead = false from rfl]
    simp; omega
  have hread : ∀ (k : Nat) c, k < 16 → (D.crash ks).cells[k]? = some c → (D.crash ks).read (k : Int) = (if c.2 then zsec else c.1, if c.2 then 221 else 0) := fun k c hk hc => by
    have hcc : (D.crash ks).cell (k : Int) = c := by
      unfold Dsk.cell
      rw [List.getD_eq_getElem?_getD, Int.toNat_natCast, hc]; rfl
    simp only [Dsk.read, hchk k hk, Dsk.look, at_nil (show (D.crash ks).opn = [] from rfl), hcc]
    cases c.2 <;> simp
  have hL : ∀ (k : Nat) t, L[k]? = some t → k < 16 ∧ D.at (k : Int) = t := fun k t ht => by
    have hk : k < 16 := by rw [← h.lL]; exact (List.getElem?_eq_some_iff.1 ht).1
    refine ⟨hk, ?_⟩
    rw [h.ats k hk, List.getD_eq_getElem?_getD, ht]; rfl
  have hcell : ∀ (k : Nat) s, k < 16 → sure[k]? = some s → D.cells[k]? = some (s, false) := fun k s hk hs => by
    rw [h.cell k hk, List.getD_eq_getElem?_getD, hs]; rfl
  have hmem : ∀ (k : Nat) , D.at (k : Int) ≠ [] → (k : Int) ∈ D.keys := fun k hne => by
    rw [Dsk.keys, List.mem_mergeSort]
    unfold Dsk.at at hne
    cases hf : D.opn.find? (fun x => x.1 == (k : Int)) with
    | none => rw [hf] at hne; simp at hne
    | some y =>
      refine List.mem_map.2 ⟨y, List.mem_of_find?_eq_some hf, ?_⟩
      simpa using List.find?_some hf
  have hpos : ∀ x ∈ D.keys, 0 ≤ x := fun x hx => by
    rw [Dsk.keys, List.mem_mergeSort] at hx
    obtain ⟨p, hp, rfl⟩ := List.mem_map.1 hx
    exact (h.keys p hp).1
  refine { len := hcl, dead := rfl, steps := rfl, opns := by simp [Dsk.opens, opensL, Dsk.keys, show (D.crash ks).opn = [] from rfl], opn := rfl, small := fun p hp => by have := h.small p hp; omega, few := fun k t ht => ?_, sur := fun k s hk hs ht => ?_, poss := fun k s t hk hs ht hne => ?_, last := fun k t hk ht hne => ?_ }
  · obtain ⟨hk, ha⟩ := hL k t ht
    have : (D.at (k : Int)).length ≤ m := by
      unfold Dsk.at
      cases hf : D.opn.find? (fun x => x.1 == (k : Int)) with
      | none => simp
      | some x => simpa using h.small x (List.mem_of_find?_eq_some hf)
    rw [ha] at this
    omega
  · obtain ⟨_, ha⟩ := hL k [] ht
    have hc : (D.crash ks).cells[k]? = some (s, false) := by
      show (crashL D ks 0 D.keys D.cells)[k]? = _
      rw [crashL_other D ks k, hcell k s hk hs]
      intro x hx e
      have h0 := hpos x hx
      have hxk : x = (k : Int) := by omega
      subst hxk
      rw [Dsk.keys, List.mem_mergeSort] at hx
      obtain ⟨p, hp, hpk⟩ := List.mem_map.1 hx
      unfold Dsk.at at ha
      cases hf : D.opn.find? (fun x => x.1 == (k : Int)) with
      | none => exact absurd hpk (by have := List.find?_eq_none.1 hf p hp; simpa using this)
      | some y =>
        rw [hf] at ha
        exact (h.keys y (List.mem_of_find?_eq_some hf)).2.2 (by simpa using ha)
    rw [hread k _ hk hc]; rfl
  · obtain ⟨_, ha⟩ := hL k t ht
    obtain ⟨X, hX⟩ := crashL_key D ks k D.keys 0 D.cells hpos (hmem k (by rw [ha]; exact hne)) (by rw [h.len]; exact hk)
    have hg : D.cells.getD k (zsec, false) = (s, false) := by rw [List.getD_eq_getElem?_getD, hcell k s hk hs]; rfl
    rw [hg, ha] at hX
    have hc : (D.crash ks).cells[k]? = some (foundC (s, false) t X) := hX
    rw [hread k _ hk hc]
    exact poss_found s t hne X _ rfl
  · obtain ⟨_, ha⟩ := hL k t ht
    have hne' : D.at (k : Int) ≠ [] := by rw [ha]; exact hne
    simp [Dsk.read, h.chk (k : Int) (by omega) (by omega), Dsk.look, ha, hne]

end Go.Proofs.Ytopeelclhpjngaa
