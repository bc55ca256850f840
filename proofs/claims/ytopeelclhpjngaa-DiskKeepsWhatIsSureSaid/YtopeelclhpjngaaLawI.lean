/- A disk and blocks of the caller's own; rows of sectors in an array; what is kept behind writes, without memory. -/
import Derived.Test.YtopeelclhpjngaaLawE
namespace Go.Proofs.Ytopeelclhpjngaa
set_option linter.unusedSimpArgs false
set_option linter.unusedVariables false
open Go Go.ChangeMaps Go.RowKit Go.Proofs

/-- The disk 'D' at 'b', made since 'wz', and blocks of the caller's own that are not the disk's. -/
def SanK (wz w : World) (b : Nat) (D : Dsk) (K : Nat → Prop) : Prop :=
  ∃ F, IsDsk w b D F ∧ (∀ k, F k → wz.heap.size ≤ k) ∧ (∀ k, K k → k < w.heap.size ∧ ¬ F k ∧ wz.heap.size ≤ k) ∧ Kp (fun _ => False) wz w

section
variable {wz w : World} {b : Nat} {D : Dsk} {K : Nat → Prop}
theorem SanK.kp (h : SanK wz w b D K) : Kp (fun _ => False) wz w := by obtain ⟨F, _, _, _, h⟩ := h; exact h
theorem SanK.lt (h : SanK wz w b D K) {k : Nat} (hk : K k) : k < w.heap.size := by obtain ⟨F, _, _, h, _⟩ := h; exact (h k hk).1
theorem SanK.add (h : SanK wz w b D K) {w' : World} (hk : Kp K w w') (K' : Nat → Prop) (hs : ∀ k, K' k → K k ∨ (w.heap.size ≤ k ∧ k < w'.heap.size)) : SanK wz w' b D K' := by
  obtain ⟨F, hI, hF, hK, hkp⟩ := h
  refine ⟨F, hI.kept hk (fun k hf e => (hK k e).2.1 hf), hF, fun k hk' => ?_, hkp.trans hk (fun k hlt e => by have := (hK k e).2.2; omega)⟩
  rcases hs k hk' with h1 | h1
  · exact ⟨Nat.lt_of_lt_of_le (hK k h1).1 hk.size, (hK k h1).2⟩
  · exact ⟨h1.2, fun hf => by have := hI.lt k hf; omega, Nat.le_trans hkp.size h1.1⟩
theorem SanK.touch (h : SanK wz w b D K) {w' : World} (hk : Kp K w w') : SanK wz w' b D K := h.add hk K (fun _ h => .inl h)
theorem SanK.quiet (h : SanK wz w b D K) {w' : World} (hk : Kp (fun _ => False) w w') : SanK wz w' b D K := h.touch (hk.mono (fun _ _ h => h.elim))
theorem SanK.sub (h : SanK wz w b D K) {K' : Nat → Prop} (hs : ∀ k, K' k → K k) : SanK wz w b D K' := h.add (Kp.refl _ _) K' (fun k h => .inl (hs k h))
theorem SanK.next {w' : World} {D' : Dsk} {b' : Nat} {F F' : Nat → Prop} (hF : ∀ k, F k → wz.heap.size ≤ k) (hKk : ∀ k, K k → k < w.heap.size ∧ ¬ F k ∧ wz.heap.size ≤ k) (hkp : Kp (fun _ => False) wz w) (hI : IsDsk w' b' D' F') (hk : Kp F w w')
    (hg : ∀ k, F' k → F k ∨ w.heap.size ≤ k) : SanK wz w' b' D' K ∧ ∀ k, K k → w'.heap[k]? = w.heap[k]? :=
  ⟨⟨F', hI, fun k hk => (hg k hk).elim (hF k) (fun h => Nat.le_trans hkp.size h), fun k hK => ⟨Nat.lt_of_lt_of_le (hKk k hK).1 hk.size, fun hf => (hg k hf).elim (hKk k hK).2.1 (fun h => by have := (hKk k hK).1; omega), (hKk k hK).2.2⟩,
    hkp.trans hk (fun k hlt hf => by have := hF k hf; omega)⟩, fun k hK => hk.block k (hKk k hK).1 (hKk k hK).2.1⟩
theorem SanK.new (hkp : Kp (fun _ => False) wz w) (hK : ∀ k, K k → k < w.heap.size ∧ wz.heap.size ≤ k) (n : Nat) (h1 : 1 ≤ n) (h2 : n ≤ 65536) :
    Calls Try.prog 7 #[.int .i64 (n : Int)] w fun e w' => ∃ b, e = .returned (.pointer (some ⟨b, 0, none⟩)) ∧ SanK wz w' b (newDsk n) K ∧ ∀ k, K k → w'.heap[k]? = w.heap[k]? := by
  refine (new_yes w n h1 h2).mono ?_
  rintro e w' ⟨b, rfl, hI, hk⟩
  exact ⟨b, rfl, SanK.next (F := fun _ => False) (fun _ h => h.elim) (fun k hk => ⟨(hK k hk).1, fun h => h, (hK k hk).2⟩) hkp hI hk (fun k hk => hk.elim (fun h => h.elim) (fun h => .inr h.1))⟩
theorem SanK.write (h : SanK wz w b D K) (i : Int) (s : Sec) (hsm : ∀ p ∈ D.opn, p.2.length < 1073741824) :
    Calls Try.prog 22 #[.pointer (some ⟨b, 0, none⟩), .int .i64 i, bv s] w fun e w' => e = .returned (.int .i64 (D.writeE i)) ∧ SanK wz w' b (D.write i s) K ∧ ∀ k, K k → w'.heap[k]? = w.heap[k]? := by
  obtain ⟨F, hI, hF, hK, hkp⟩ := h
  refine (write_c w b D F hI i s hsm).mono ?_
  rintro e w' ⟨rfl, hI', hk⟩
  exact ⟨rfl, SanK.next hF hK hkp hI' hk (fun k hk => hk.elim .inl (fun h => .inr h.1))⟩
theorem SanK.sync (h : SanK wz w b D K) :
    Calls Try.prog 21 #[.pointer (some ⟨b, 0, none⟩)] w fun e w' => e = .returned (.int .i64 D.syncE) ∧ SanK wz w' b D.sync K ∧ ∀ k, K k → w'.heap[k]? = w.heap[k]? := by
  obtain ⟨F, hI, hF, hK, hkp⟩ := h
  refine (sync_c w b D F hI).mono ?_
  rintro e w' ⟨rfl, hI', hk⟩
  exact ⟨rfl, SanK.next hF hK hkp hI' hk (fun k hk => .inl hk)⟩
theorem SanK.flip (h : SanK wz w b D K) (i bit : Int) :
    Calls Try.prog 24 #[.pointer (some ⟨b, 0, none⟩), .int .i64 i, .int .i64 bit] w fun e w' => e = .returned (.int .i64 (D.flipE i bit)) ∧ SanK wz w' b (D.flip i bit) K ∧ ∀ k, K k → w'.heap[k]? = w.heap[k]? := by
  obtain ⟨F, hI, hF, hK, hkp⟩ := h
  refine (flip_c w b D F hI i bit).mono ?_
  rintro e w' ⟨rfl, hI', hk⟩
  exact ⟨rfl, SanK.next hF hK hkp hI' hk (fun k hk => .inl hk)⟩
theorem SanK.rot (h : SanK wz w b D K) (i : Int) :
    Calls Try.prog 25 #[.pointer (some ⟨b, 0, none⟩), .int .i64 i] w fun e w' => e = .returned (.int .i64 (D.chk i)) ∧ SanK wz w' b (D.rot i) K ∧ ∀ k, K k → w'.heap[k]? = w.heap[k]? := by
  obtain ⟨F, hI, hF, hK, hkp⟩ := h
  refine (rot_c w b D F hI i).mono ?_
  rintro e w' ⟨rfl, hI', hk⟩
  exact ⟨rfl, SanK.next hF hK hkp hI' hk (fun k hk => .inl hk)⟩
theorem SanK.read (h : SanK wz w b D K) (i : Int) :
    Calls Try.prog 11 #[.pointer (some ⟨b, 0, none⟩), .int .i64 i] w fun e w' => e = .returned (.tuple #[bv (D.read i).1, .int .i64 (D.read i).2]) ∧ Kp (fun _ => False) w w' := by
  obtain ⟨F, hI, _⟩ := h
  exact read_c w b D F hI i
theorem SanK.crash (h : SanK wz w b D K) (kv : Value) (ks : List Int) (hks : Ints w kv ks) (hsm : ∀ p ∈ D.opn, p.2.length < 1073741824) :
    Calls Try.prog 14 #[.pointer (some ⟨b, 0, none⟩), kv] w fun e w' => ∃ b', e = .returned (.pointer (some ⟨b', 0, none⟩)) ∧ SanK wz w' b' (D.crash ks) K ∧ Kp (fun _ => False) w w' := by
  obtain ⟨F, hI, hF, hK, hkp⟩ := h
  refine (crash_c w b D F hI kv ks hks hsm).mono ?_
  rintro e w' ⟨b', F', rfl, hI', hn, hk⟩
  exact ⟨b', rfl, ⟨F', hI', fun k hk => Nat.le_trans hkp.size (hn k hk), fun k hK' => ⟨Nat.lt_of_lt_of_le (hK k hK').1 hk.size, fun hf => by have := hn _ hf; have := (hK k hK').1; omega, (hK k hK').2.2⟩, hkp.trans hk (fun _ _ h => h)⟩, hk⟩
end

/-! ### Rows of sectors -/
structure Rows (w : World) (vals : List Value) (L : List (List Sec)) : Prop where
  lv : vals.length = 16
  lL : L.length = 16
  own : ∀ (i : Nat) v s, vals[i]? = some v → L[i]? = some s → w.ownsRow 0 33 64 v s.length (flatS s)
  apart : ∀ (i j : Nat) v u g, vals[i]? = some v → vals[j]? = some u → v.ownBlock = some g → u.ownBlock = some g → i = j

def KR (vals : List Value) (k : Nat) : Prop := ∃ v ∈ vals, v.ownBlock = some k

theorem own_step {w w' : World} {e size n : Nat} {v : Value} {xs : List Value} (h : w.ownsRow 0 e size v n xs) (hk : ∀ g, v.ownBlock = some g → w'.heap[g]? = w.heap[g]?) : w'.ownsRow 0 e size v n xs := by
  refine ⟨h.1, ?_⟩
  rcases h.2 with hn | ⟨g, cap, cur, hv, hb, hg, rest⟩
  · exact .inl hn
  · exact .inr ⟨g, cap, cur, hv, hb, (hk g (by rw [hv]; rfl)).trans hg, rest⟩
theorem own_nil (w : World) (e size : Nat) : w.ownsRow 0 e size (.slice none 0 0) 0 [] := ⟨by simp, .inl ⟨rfl, rfl⟩⟩
theorem own_lt {w : World} {e size n g : Nat} {v : Value} {xs : List Value} (h : w.ownsRow 0 e size v n xs) (hg : v.ownBlock = some g) : ∃ C, w.heap[g]? = some (.cells C e (0, 0)) := by
  rcases h.2 with ⟨rfl, _⟩ | ⟨g', cap, cur, rfl, _, hgg, _⟩
  · cases hg
  · simp [Value.ownBlock] at hg; subst hg; exact ⟨_, hgg⟩

section
variable {w w' : World} {vals : List Value} {L : List (List Sec)}
theorem Rows.kept (h : Rows w vals L) (hk : ∀ k, KR vals k → w'.heap[k]? = w.heap[k]?) : Rows w' vals L where
  lv := h.lv
  lL := h.lL
  own := fun i v s hv hs => own_step (h.own i v s hv hs) (fun g hg => hk g ⟨v, List.mem_of_getElem? hv, hg⟩)
  apart := h.apart
theorem Rows.val (h : Rows w vals L) (i : Nat) (hi : i < 16) : ∃ v s, vals[i]? = some v ∧ L[i]? = some s ∧ w.ownsRow 0 33 64 v s.length (flatS s) := by
  have h1 : vals[i]? = some (vals[i]'(by rw [h.lv]; exact hi)) := List.getElem?_eq_getElem _
  have h2 : L[i]? = some (L[i]'(by rw [h.lL]; exact hi)) := List.getElem?_eq_getElem _
  exact ⟨_, _, h1, h2, h.own i _ _ h1 h2⟩
/-- One row is another one. -/
theorem Rows.put (h : Rows w vals L) (i : Nat) (hi : i < 16) (v u : Value) (s : List Sec) (hv : vals[i]? = some v) (hown : w'.ownsRow 0 33 64 u s.length (flatS s))
    (hk : ∀ k, KR vals k → v.ownBlock ≠ some k → w'.heap[k]? = w.heap[k]?) (hu : ∀ g, u.ownBlock = some g → v.ownBlock = some g ∨ w.heap.size ≤ g) : Rows w' (vals.set i u) (L.set i s) where
  lv := by rw [List.length_set, h.lv]
  lL := by rw [List.length_set, h.lL]
  own := by
    intro j x t hx ht
    by_cases hj : i = j
    · subst hj
      rw [List.getElem?_set_self (by rw [h.lv]; exact hi)] at hx
      rw [List.getElem?_set_self (by rw [h.lL]; exact hi)] at ht
      cases hx; cases ht; exact hown
    · rw [List.getElem?_set_ne hj] at hx ht
      exact own_step (h.own j x t hx ht) (fun g hg => hk g ⟨x, List.mem_of_getElem? hx, hg⟩ (fun e => hj (h.apart i j v x g hv hx e hg)))
  apart := by
    have key : ∀ j x g, j ≠ i → vals[j]? = some x → x.ownBlock = some g → u.ownBlock ≠ some g := by
      intro j x g hj hx hg hug
      rcases hu g hug with e | e
      · exact hj (h.apart j i x v g hx hv hg e)
      · obtain ⟨t, ht⟩ : ∃ t, L[j]? = some t := by
          have := (List.getElem?_eq_some_iff.1 hx).1
          exact ⟨L[j]'(by rw [h.lL, ← h.lv]; exact this), List.getElem?_eq_getElem _⟩
        obtain ⟨C, hC⟩ := own_lt (h.own j x t hx ht) hg
        have := lt_of_heap hC
        omega
    intro a c x y g hx hy hxg hyg
    by_cases ha : i = a <;> by_cases hc : i = c
    · omega
    · rw [← ha, List.getElem?_set_self (by rw [h.lv]; exact hi)] at hx
      rw [List.getElem?_set_ne hc] at hy
      cases hx
      exact absurd hxg (key c y g (Ne.symm hc) hy hyg)
    · rw [← hc, List.getElem?_set_self (by rw [h.lv]; exact hi)] at hy
      rw [List.getElem?_set_ne ha] at hx
      cases hy
      exact absurd hyg (key a x g (Ne.symm ha) hx hxg)
    · rw [List.getElem?_set_ne ha] at hx
      rw [List.getElem?_set_ne hc] at hy
      exact h.apart a c x y g hx hy hxg hyg
theorem Rows.nils (w : World) : Rows w (List.replicate 16 (.slice none 0 0)) (List.replicate 16 []) where
  lv := by simp
  lL := by simp
  own := by
    intro i v s hv hs
    rw [List.getElem?_replicate] at hv hs
    split at hv
    · rename_i hi
      rw [if_pos hi] at hs
      cases hv; cases hs
      exact own_nil _ _ _
    · cases hv
  apart := by
    intro i j v u g hv _ hg _
    rw [List.getElem?_replicate] at hv
    split at hv
    · cases hv; cases hg
    · cases hv
end

/-! ### What is kept behind writes -/
/-- A sector that is filled with one byte. -/
def Fil (s : Sec) : Prop := ∃ b : Int, s = filled b
theorem fil_z : Fil zsec := ⟨0, rfl⟩
structure WInv (m : Nat) (D : Dsk) (sure : List Sec) (L : List (List Sec)) : Prop where
  lS : sure.length = 16
  lL : L.length = 16
  len : D.cells.length = 16
  cell : ∀ k : Nat, k < 16 → D.cells[k]? = some (sure.getD k zsec, false)
  ats : ∀ k : Nat, k < 16 → D.at (k : Int) = L.getD k []
  keys : ∀ p ∈ D.opn, 0 ≤ p.1 ∧ p.1 < 16 ∧ p.2 ≠ []
  small : ∀ p ∈ D.opn, p.2.length ≤ m
  after : D.after = -1
  dead : D.dead = false
  fs : ∀ s ∈ sure, Fil s
  fL : ∀ l ∈ L, ∀ s ∈ l, Fil s

theorem WInv.new : WInv 0 (newDsk 16) (List.replicate 16 zsec) (List.replicate 16 []) where
  lS := by simp
  lL := by simp
  len := by simp [newDsk]
  cell := fun k hk => by
    show (List.replicate 16 ((zsec, false) : Sec × Bool))[k]? = _
    rw [List.getElem?_replicate, if_pos hk, List.getD_eq_getElem?_getD, List.getElem?_replicate, if_pos hk]; rfl
  ats := fun k hk => by
    rw [List.getD_eq_getElem?_getD, List.getElem?_replicate, if_pos hk]; rfl
  keys := by simp [newDsk]
  small := by simp [newDsk]
  after := rfl
  dead := rfl
  fs := fun s hs => by rw [List.eq_of_mem_replicate hs]; exact fil_z
  fL := fun l hl s hs => by rw [List.eq_of_mem_replicate hl] at hs; simp at hs

/-- What is sure behind a sync. -/
def syncS (sure : List Sec) (L : List (List Sec)) : List Sec := List.zipWith (fun a l => if l ≠ [] then l.getLastD zsec else a) sure L

section
variable {m : Nat} {D : Dsk} {sure : List Sec} {L : List (List Sec)}
theorem WInv.chk (h : WInv m D sure L) (k : Int) (h0 : 0 ≤ k) (h1 : k < 16) : D.chk k = 0 := by
  unfold Dsk.chk
  rw [h.dead, h.len]
  simp; omega
theorem WInv.stpE (h : WInv m D sure L) : D.stpE = 0 := by simp [Dsk.stpE, h.after]
theorem WInv.stp (h : WInv m D sure L) : D.stp = { D with steps := wrap64 (D.steps + 1) } := by
  simp [Dsk.stp, h.after]
theorem WInv.write (h : WInv m D sure L) (k : Nat) (hk : k < 16) (s : Sec) (hf : Fil s) : D.writeE (k : Int) = 0 ∧ WInv (m + 1) (D.write (k : Int) s) sure (L.set k (L.getD k [] ++ [s])) := by
  have hc := h.chk k (by omega) (by omega)
  have e1 : D.writeE (k : Int) = 0 := by simp [Dsk.writeE, hc, h.stpE]
  have e2 : D.write (k : Int) s = { D.stp with opn := opnPut D.opn k s } := by simp [Dsk.write, hc, h.stpE]
  rw [e2, h.stp]
  refine ⟨e1, { lS := h.lS, lL := by rw [List.length_set, h.lL], len := h.len, cell := h.cell, ats := fun j hj => ?_, keys := fun p hp => ?_, small := fun p hp => ?_, after := h.after, dead := h.dead, fs := ?_, fL := ?_ }⟩
  · rw [at_put D _ k s rfl j]
    by_cases hjk : j = k
    · subst hjk
      rw [if_pos rfl, h.ats j hj]
      simp [List.getD_eq_getElem?_getD, List.getElem?_set_self (show j < L.length by rw [h.lL]; exact hj)]
    · rw [if_neg (by omega), h.ats j hj, List.getD_eq_getElem?_getD, List.getD_eq_getElem?_getD, List.getElem?_set_ne (Ne.symm hjk)]
  · rcases mem_opnPut _ _ _ _ hp with hp | ⟨q, hq, rfl⟩ | rfl
    · exact h.keys p hp
    · exact ⟨by simp, by simp; omega, by simp⟩
    · exact ⟨by simp, by simp; omega, by simp⟩
  · rcases mem_opnPut _ _ _ _ hp with hp | ⟨q, hq, rfl⟩ | rfl
    · exact Nat.le_succ_of_le (h.small p hp)
    · have := h.small q hq; simp; omega
    · simp
  · exact h.fs
  · intro l hl x hx
    rcases List.mem_or_eq_of_mem_set hl with hl | rfl
    · exact h.fL l hl x hx
    · rcases List.mem_append.1 hx with hx | hx
      · have hk' : k < L.length := by rw [h.lL]; exact hk
        rw [List.getD_eq_getElem?_getD, List.getElem?_eq_getElem hk'] at hx
        exact h.fL _ (List.getElem_mem hk') x hx
      · rw [List.mem_singleton] at hx; rw [hx]; exact hf
theorem syncS_get (h : WInv m D sure L) (k : Nat) (hk : k < 16) : (syncS sure L).getD k zsec = if L.getD k [] ≠ [] then (L.getD k []).getLastD zsec else sure.getD k zsec := by
  have h1 : sure[k]? = some (sure[k]'(by rw [h.lS]; exact hk)) := List.getElem?_eq_getElem _
  have h2 : L[k]? = some (L[k]'(by rw [h.lL]; exact hk)) := List.getElem?_eq_getElem _
  simp only [syncS, List.getD_eq_getElem?_getD, List.getElem?_zipWith, h1, h2, Option.getD_some]
theorem WInv.sync (h : WInv m D sure L) : D.syncE = 0 ∧ WInv m D.sync (syncS sure L) (List.replicate 16 []) := by
  have hc := h.chk 0 (by omega) (by omega)
  have e1 : D.syncE = 0 := by simp [Dsk.syncE, hc, h.stpE]
  have e2 : D.sync = { D.stp with cells := D.flush, opn := [] } := by simp [Dsk.sync, hc, h.stpE]
  rw [e2, h.stp]
  refine ⟨e1, { lS := by simp [syncS, h.lS, h.lL], lL := by simp, len := by simp [Dsk.flush, h.len], cell := fun k hk => ?_, ats := fun j hj => ?_, keys := by simp, small := by simp, after := h.after, dead := h.dead, fs := ?_, fL := fun l hl s hs => by rw [List.eq_of_mem_replicate hl] at hs; simp at hs }⟩
  · simp only [Dsk.flush, List.getElem?_map, List.getElem?_zipIdx, h.cell k hk, Option.map_some, Nat.zero_add, Option.some.injEq]
    rw [h.ats k hk, syncS_get h k hk]
    split <;> rfl
  · rw [List.getD_eq_getElem?_getD, List.getElem?_replicate, if_pos hj]; simp [Dsk.at]
  · intro s hs
    obtain ⟨k, hk, hks⟩ := List.getElem_of_mem hs
    have hk16 : k < 16 := by simpa [syncS, h.lS, h.lL] using hk
    have hg := syncS_get h k hk16
    rw [List.getD_eq_getElem?_getD, List.getElem?_eq_getElem hk, Option.getD_some, hks] at hg
    rw [hg]
    split
    · rename_i hne
      have hk' : k < L.length := by rw [h.lL]; exact hk16
      rw [List.getD_eq_getElem?_getD, List.getElem?_eq_getElem hk', Option.getD_some] at hne ⊢
      obtain ⟨x, hx⟩ : ∃ x, (L[k]'hk').getLast? = some x := by
        cases hg' : (L[k]'hk').getLast? with
        | none => exact absurd (List.getLast?_eq_none_iff.1 hg') hne
        | some x => exact ⟨x, rfl⟩
      rw [List.getLastD_eq_getLast?, hx, Option.getD_some]
      obtain ⟨ys, hys⟩ := List.getLast?_eq_some_iff.1 hx
      exact h.fL _ (List.getElem_mem hk') _ (by rw [hys]; simp)
    · have hk' : k < sure.length := by rw [h.lS]; exact hk16
      rw [List.getD_eq_getElem?_getD, List.getElem?_eq_getElem hk', Option.getD_some]
      exact h.fs _ (List.getElem_mem hk')
end

end Go.Proofs.Ytopeelclhpjngaa
