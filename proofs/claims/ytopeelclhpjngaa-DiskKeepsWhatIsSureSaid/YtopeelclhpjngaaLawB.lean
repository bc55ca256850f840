/- A disk and the variables of a function that uses it. -/
import Derived.Test.YtopeelclhpjngaaLawA
namespace Go.Proofs.Ytopeelclhpjngaa
set_option linter.unusedSimpArgs false
set_option linter.unusedVariables false
open Go Go.ChangeMaps Go.RowKit Go.Proofs

/-- The disk 'D' at 'b', made since 'wz', and objects of the caller's own that are not the disk's. -/
def San (wz w : World) (b : Nat) (D : Dsk) (vs : List (Nat × Obj)) : Prop :=
  ∃ F, IsDsk w b D F ∧ (∀ k, F k → wz.heap.size ≤ k) ∧ (∀ p ∈ vs, w.heap[p.1]? = some p.2 ∧ ¬ F p.1 ∧ wz.heap.size ≤ p.1) ∧ Kp (fun _ => False) wz w

theorem San.kp {wz w : World} {b : Nat} {D : Dsk} {vs : List (Nat × Obj)} (h : San wz w b D vs) : Kp (fun _ => False) wz w := by
  obtain ⟨F, _, _, _, h⟩ := h; exact h
theorem San.var {wz w : World} {b : Nat} {D : Dsk} {vs : List (Nat × Obj)} (h : San wz w b D vs) (p : Nat × Obj) (hp : p ∈ vs) : w.heap[p.1]? = some p.2 := by
  obtain ⟨F, _, _, hv, _⟩ := h; exact (hv p hp).1
theorem San.quiet {wz w w' : World} {b : Nat} {D : Dsk} {vs : List (Nat × Obj)} (h : San wz w b D vs) (hk : Kp (fun _ => False) w w') : San wz w' b D vs := by
  obtain ⟨F, hI, hF, hv, hK⟩ := h
  exact ⟨F, hI.kept hk (fun _ _ e => e), hF, fun p hp => ⟨hk.heap (hv p hp).1 (fun e => e), (hv p hp).2⟩, hK.trans hk (fun _ _ h => h)⟩
theorem San.sub {wz w : World} {b : Nat} {D : Dsk} {vs us : List (Nat × Obj)} (h : San wz w b D vs) (hs : ∀ p ∈ us, p ∈ vs) : San wz w b D us := by
  obtain ⟨F, hI, hF, hv, hK⟩ := h
  exact ⟨F, hI, hF, fun p hp => hv p (hs p hp), hK⟩
theorem San.alloc {wz w : World} {b : Nat} {D : Dsk} {vs : List (Nat × Obj)} (h : San wz w b D vs) (cs : Array Value) (t : TypeId) : San wz (w.alloc (.cells cs t)) b D ((w.heap.size, .cells cs t (0, 0)) :: vs) := by
  obtain ⟨F, hI, hF, hv, hK⟩ := h
  refine ⟨F, hI.alloc _, hF, fun p hp => ?_, hK.alloc _⟩
  rcases List.mem_cons.1 hp with rfl | hp
  · exact ⟨heap_alloc_new w _, fun hf => Nat.lt_irrefl _ (hI.lt _ hf), hK.size⟩
  · exact ⟨(Below.heap_alloc _ _ _ (lt_of_heap (hv p hp).1)).trans (hv p hp).1, (hv p hp).2⟩
theorem San.set {wz w w' : World} {b : Nat} {D : Dsk} {vs : List (Nat × Obj)} {r : Nat} {o o' : Obj} (h : San wz w b D ((r, o) :: vs)) (hk : Kp (fun k => k = r) w w') (hr : w'.heap[r]? = some o') (hne : ∀ p ∈ vs, p.1 ≠ r) :
    San wz w' b D ((r, o') :: vs) := by
  obtain ⟨F, hI, hF, hv, hK⟩ := h
  have hnr : ¬ F r := (hv (r, o) (by simp)).2.1
  have hz : wz.heap.size ≤ r := (hv (r, o) (by simp)).2.2
  refine ⟨F, hI.kept hk (fun k hf e => hnr (e ▸ hf)), hF, fun p hp => ?_, hK.trans hk (fun k hk e => by omega)⟩
  rcases List.mem_cons.1 hp with rfl | hp
  · exact ⟨hr, hnr, hz⟩
  · exact ⟨hk.heap (hv p (List.mem_cons_of_mem _ hp)).1 (hne p hp), (hv p (List.mem_cons_of_mem _ hp)).2⟩
theorem San.next {wz w w' : World} {b : Nat} {D' : Dsk} {vs : List (Nat × Obj)} {F F' : Nat → Prop} (hF : ∀ k, F k → wz.heap.size ≤ k) (hv : ∀ p ∈ vs, w.heap[p.1]? = some p.2 ∧ ¬ F p.1 ∧ wz.heap.size ≤ p.1) (hK : Kp (fun _ => False) wz w)
    (hI : IsDsk w' b D' F') (hk : Kp F w w') (hg : ∀ k, F' k → F k ∨ w.heap.size ≤ k) : San wz w' b D' vs :=
  ⟨F', hI, fun k hk => (hg k hk).elim (hF k) (fun h => Nat.le_trans hK.size h), fun p hp => ⟨hk.heap (hv p hp).1 (hv p hp).2.1, fun hf => (hg _ hf).elim (hv p hp).2.1 (fun h => by have := lt_of_heap (hv p hp).1; omega), (hv p hp).2.2⟩,
    hK.trans hk (fun k hk hf => by have := hF k hf; omega)⟩

theorem San.new {wz w : World} (hK : Kp (fun _ => False) wz w) (vs : List (Nat × Obj)) (hv : ∀ p ∈ vs, w.heap[p.1]? = some p.2 ∧ wz.heap.size ≤ p.1) (n : Nat) (h1 : 1 ≤ n) (h2 : n ≤ 65536) :
    Calls Try.prog 7 #[.int .i64 (n : Int)] w fun e w' => ∃ b, e = .returned (.pointer (some ⟨b, 0, none⟩)) ∧ San wz w' b (newDsk n) vs := by
  refine (new_yes w n h1 h2).mono ?_
  rintro e w' ⟨b, rfl, hI, hk⟩
  refine ⟨b, rfl, San.next (F := fun _ => False) (fun _ h => h.elim) (fun p hp => ⟨(hv p hp).1, fun h => h, (hv p hp).2⟩) hK hI hk (fun k hk => hk.elim (fun h => h.elim) (fun h => .inr h.1))⟩
section
variable {wz w : World} {b : Nat} {D : Dsk} {vs : List (Nat × Obj)}
theorem San.write (h : San wz w b D vs) (i : Int) (s : Sec) (hsm : ∀ p ∈ D.opn, p.2.length < 1073741824) :
    Calls Try.prog 22 #[.pointer (some ⟨b, 0, none⟩), .int .i64 i, bv s] w fun e w' => e = .returned (.int .i64 (D.writeE i)) ∧ San wz w' b (D.write i s) vs := by
  obtain ⟨F, hI, hF, hv, hK⟩ := h
  refine (write_c w b D F hI i s hsm).mono ?_
  rintro e w' ⟨rfl, hI', hk⟩
  exact ⟨rfl, San.next hF hv hK hI' hk (fun k hk => hk.elim .inl (fun h => .inr h.1))⟩
theorem San.sync (h : San wz w b D vs) :
    Calls Try.prog 21 #[.pointer (some ⟨b, 0, none⟩)] w fun e w' => e = .returned (.int .i64 D.syncE) ∧ San wz w' b D.sync vs := by
  obtain ⟨F, hI, hF, hv, hK⟩ := h
  refine (sync_c w b D F hI).mono ?_
  rintro e w' ⟨rfl, hI', hk⟩
  exact ⟨rfl, San.next hF hv hK hI' hk (fun k hk => .inl hk)⟩
theorem San.arm (h : San wz w b D vs) (n : Int) (hn : n < 9223372036854775808) :
    Calls Try.prog 20 #[.pointer (some ⟨b, 0, none⟩), .int .i64 n] w fun e w' => e = .returned (.tuple #[]) ∧ San wz w' b (D.arm n) vs := by
  obtain ⟨F, hI, hF, hv, hK⟩ := h
  refine (arm_c w b D F hI n hn).mono ?_
  rintro e w' ⟨rfl, hI', hk⟩
  exact ⟨rfl, San.next hF hv hK hI' hk (fun k hk => .inl hk)⟩
theorem San.flip (h : San wz w b D vs) (i bit : Int) :
    Calls Try.prog 24 #[.pointer (some ⟨b, 0, none⟩), .int .i64 i, .int .i64 bit] w fun e w' => e = .returned (.int .i64 (D.flipE i bit)) ∧ San wz w' b (D.flip i bit) vs := by
  obtain ⟨F, hI, hF, hv, hK⟩ := h
  refine (flip_c w b D F hI i bit).mono ?_
  rintro e w' ⟨rfl, hI', hk⟩
  exact ⟨rfl, San.next hF hv hK hI' hk (fun k hk => .inl hk)⟩
theorem San.rot (h : San wz w b D vs) (i : Int) :
    Calls Try.prog 25 #[.pointer (some ⟨b, 0, none⟩), .int .i64 i] w fun e w' => e = .returned (.int .i64 (D.chk i)) ∧ San wz w' b (D.rot i) vs := by
  obtain ⟨F, hI, hF, hv, hK⟩ := h
  refine (rot_c w b D F hI i).mono ?_
  rintro e w' ⟨rfl, hI', hk⟩
  exact ⟨rfl, San.next hF hv hK hI' hk (fun k hk => .inl hk)⟩
theorem San.read (h : San wz w b D vs) (i : Int) :
    Calls Try.prog 11 #[.pointer (some ⟨b, 0, none⟩), .int .i64 i] w fun e w' => e = .returned (.tuple #[bv (D.read i).1, .int .i64 (D.read i).2]) ∧ Kp (fun _ => False) w w' := by
  obtain ⟨F, hI, _⟩ := h
  exact read_c w b D F hI i
theorem San.size (h : San wz w b D vs) :
    Calls Try.prog 15 #[.pointer (some ⟨b, 0, none⟩)] w fun e w' => e = .returned (.int .i64 D.cells.length) ∧ w = w' := by
  obtain ⟨F, hI, _⟩ := h
  exact size_c w b D F hI
theorem San.steps (h : San wz w b D vs) :
    Calls Try.prog 17 #[.pointer (some ⟨b, 0, none⟩)] w fun e w' => e = .returned (.int .i64 D.steps) ∧ w = w' := by
  obtain ⟨F, hI, _⟩ := h
  exact steps_c w b D F hI
theorem San.down (h : San wz w b D vs) :
    Calls Try.prog 16 #[.pointer (some ⟨b, 0, none⟩)] w fun e w' => e = .returned (.bool D.dead) ∧ w = w' := by
  obtain ⟨F, hI, _⟩ := h
  exact down_c w b D F hI
theorem San.open (h : San wz w b D vs) (hsm : ∀ p ∈ D.opn, p.2.length < 1048576) :
    Calls Try.prog 18 #[.pointer (some ⟨b, 0, none⟩)] w fun e w' => ∃ p c, e = .returned (.slice p D.opens.length c) ∧ Row w' (.slice p D.opens.length c) D.opens ∧ Kp (fun _ => False) w w' := by
  obtain ⟨F, hI, _⟩ := h
  refine (open_c w b D F hI hsm).mono ?_
  rintro e w' ⟨v, rfl, hown, hk⟩
  have hr := Row.of_owns hown
  obtain ⟨p, c, rfl, h'⟩ := hr
  exact ⟨p, c, rfl, ⟨p, c, rfl, h'⟩, hk⟩
theorem San.crash (h : San wz w b D vs) (kv : Value) (ks : List Int) (hks : Ints w kv ks) (hsm : ∀ p ∈ D.opn, p.2.length < 1073741824) :
    Calls Try.prog 14 #[.pointer (some ⟨b, 0, none⟩), kv] w fun e w' => ∃ b', e = .returned (.pointer (some ⟨b', 0, none⟩)) ∧ San wz w' b' (D.crash ks) vs ∧ Kp (fun _ => False) w w' := by
  have h0 := h
  obtain ⟨F, hI, hF, hv, hK⟩ := h
  refine (crash_c w b D F hI kv ks hks hsm).mono ?_
  rintro e w' ⟨b', F', rfl, hI', hn, hk⟩
  exact ⟨b', rfl, ⟨F', hI', fun k hk => Nat.le_trans hK.size (hn k hk), fun p hp => ⟨hk.heap (hv p hp).1 (fun e => e), fun hf => by have := hn _ hf; have := lt_of_heap (hv p hp).1; omega, (hv p hp).2.2⟩, hK.trans hk (fun _ _ h => h)⟩, hk⟩
end

/-- A variable that holds a sector. -/
def oS (s : Sec) : Obj := .cells (bcells s).toArray 33 (0, 0)
theorem San.fresh {wz w : World} {b : Nat} {D : Dsk} {vs : List (Nat × Obj)} (h : San wz w b D vs) (s : Sec) :
    San wz ((w.alloc (.cells (bcells zsec).toArray 33)).setCells w.heap.size 0 (bcells s)) b D ((w.heap.size, oS s) :: vs) := by
  refine (h.alloc _ _).set (Kp.setCells (F := fun k => k = _) (fun _ => rfl) _ _ _ (Kp.refl _ _)) (heap_fill (heap_alloc_new w _) (by simp)) (fun p hp e => ?_)
  have := lt_of_heap (h.var p hp)
  omega
theorem San.restore {wz w : World} {b r : Nat} {D : Dsk} {vs : List (Nat × Obj)} {s0 : Sec} (h : San wz w b D ((r, oS s0) :: vs)) (s : Sec) (hne : ∀ p ∈ vs, p.1 ≠ r) :
    San wz (w.setCells r 0 (bcells s)) b D ((r, oS s) :: vs) :=
  h.set (Kp.setCells (F := fun k => k = _) (fun _ => rfl) _ _ _ (Kp.refl _ _)) (heap_fill (h.var (r, oS s0) (by simp)) (by simp)) hne
theorem San.lt {wz w : World} {b : Nat} {D : Dsk} {vs : List (Nat × Obj)} (h : San wz w b D vs) (p : Nat × Obj) (hp : p ∈ vs) : p.1 < w.heap.size := lt_of_heap (h.var p hp)
theorem San.rd {wz w : World} {b r : Nat} {D : Dsk} {vs : List (Nat × Obj)} {s : Sec} (h : San wz w b D vs) (hp : (r, oS s) ∈ vs) : w.rangeAt r 0 (bcells s) := range_all (h.var _ hp)
theorem San.th {wz w : World} {b r : Nat} {D : Dsk} {vs : List (Nat × Obj)} {s : Sec} (h : San wz w b D vs) (hp : (r, oS s) ∈ vs) (s' : Sec) : w.there r 0 (bcells s').length := there_all (h.var _ hp) (by simp)

/-- A guarded operation whose guard says yes. -/
theorem wpList_guarded {P : Program} {ops : Array Oper} {rest : List Oper} {op : Oper} {a : Act} {w : World} {Q : Exit → Act → World → Prop} (hw : Region.wanted op (yielded ops a.tmps) = true)
    (h : wpList P ops Q ({ op with guard := none } :: rest) a w) : wpList P ops Q (op :: rest) a w := by
  unfold wpList at h ⊢
  rw [if_pos hw]
  rw [if_pos (by simp [Region.wanted])] at h
  exact h

end Go.Proofs.Ytopeelclhpjngaa
