/- The disk: what it is, as lists, and how it lies in memory. -/
import Derived.Test.YtopeelclhpjngaaProg
import Derived.Test.YtopeelclhpjngaaMem
import Derived.KernelRfl
namespace Go.Proofs.Ytopeelclhpjngaa
set_option linter.unusedSimpArgs false
set_option linter.unusedVariables false
open Go Go.ChangeMaps Go.RowKit

abbrev Sec := Bytes 64
def zsec : Sec := Vector.replicate 64 0
/-- A disk: its cells (bytes, rotten), its open writes, its steps, what is left before it fails, whether it is down. -/
structure Dsk where
  cells : List (Sec × Bool)
  opn : List (Int × List Sec)
  steps : Int
  after : Int
  dead : Bool

def ccells (c : Sec × Bool) : List Value := bcells c.1 ++ [.bool c.2]
@[simp] theorem length_ccells (c : Sec × Bool) : (ccells c).length = 65 := by simp [ccells]
def flatC (l : List (Sec × Bool)) : List Value := l.flatMap ccells
def flatS (l : List Sec) : List Value := l.flatMap bcells
theorem length_flatC (l : List (Sec × Bool)) : (flatC l).length = l.length * 65 := by
  induction l with
  | nil => rfl
  | cons a r ih => simp [flatC] at ih ⊢; omega
theorem length_flatS (l : List Sec) : (flatS l).length = l.length * 64 := by
  induction l with
  | nil => rfl
  | cons a r ih => simp [flatS] at ih ⊢; omega
theorem flatS_append (a b : List Sec) : flatS (a ++ b) = flatS a ++ flatS b := by simp [flatS]
theorem flatS_one (a : Sec) : flatS [a] = bcells a := by simp [flatS]

theorem flat_at {α : Type} (f : α → List Value) (n : Nat) (hf : ∀ x, (f x).length = n) : ∀ (l : List α) (i : Nat) (hi : i < l.length), ((l.flatMap f).drop (i * n)).take n = f l[i]
  | x :: r, 0, _ => by simp [← hf x]
  | x :: r, i + 1, hi => by
    have := flat_at f n hf r i (by simpa using hi)
    simp only [List.flatMap_cons, List.getElem_cons_succ]
    rw [List.drop_append_of_le_length' (f x) _ n i (hf x)]
    exact this
where
  List.drop_append_of_le_length' (a b : List Value) (n i : Nat) (h : a.length = n) : (a ++ b).drop ((i + 1) * n) = b.drop (i * n) := by
    rw [List.drop_append]
    have : a.drop ((i + 1) * n) = [] := List.drop_eq_nil_of_le (by rw [h, Nat.add_mul]; omega)
    rw [this, List.nil_append, h]
    congr 1
    rw [Nat.add_mul]; omega

theorem flat_over {α : Type} (f : α → List Value) (n : Nat) (hf : ∀ x, (f x).length = n) : ∀ (l : List α) (i : Nat) (x : α), i < l.length → over (l.flatMap f) (i * n) (f x) = (l.set i x).flatMap f
  | a :: r, 0, x, _ => by simp [over, hf x, ← hf a]
  | a :: r, i + 1, x, hi => by
    have ih := flat_over f n hf r i x (by simpa using hi)
    simp only [over, List.flatMap_cons, List.set_cons_succ] at ih ⊢
    have h1 : (f a ++ r.flatMap f).take ((i + 1) * n) = f a ++ (r.flatMap f).take (i * n) := by
      rw [List.take_append]
      rw [List.take_of_length_le (by rw [hf, Nat.add_mul]; omega), hf]
      congr 2
      rw [Nat.add_mul]; omega
    have h2 : (f a ++ r.flatMap f).drop ((i + 1) * n + (f x).length) = (r.flatMap f).drop (i * n + (f x).length) := by
      rw [List.drop_append]
      rw [List.drop_eq_nil_of_le (by rw [hf a, Nat.add_mul]; omega), List.nil_append, hf a]
      congr 1
      rw [Nat.add_mul]; omega
    rw [h1, h2, ← ih]
    simp

/-- An entry of the map of open writes. -/
structure Ent where
  key : Int
  val : Value
  secs : List Sec
  born : Nat
def Ent.i (x : Ent) : Int × Value × Nat := (x.key, x.val, x.born)

def TDisk : Nat := 65
def TCell : Nat := 73
def TSec : Nat := 33

structure EntOk (w : World) (n : Nat) (F : Nat → Prop) (x : Ent) : Prop where
  own : w.ownsRow 0 33 64 x.val x.secs.length (flatS x.secs)
  ne : x.secs ≠ []
  lo : 0 ≤ x.key
  hi : x.key < n
  foot : ∀ g, x.val.ownBlock = some g → F g

structure DskAt (w : World) (b cb mb : Nat) (l : List Ent) (clock : Nat) (D : Dsk) (F : Nat → Prop) : Prop where
  hb : w.heap[b]? = some (.cells #[.slice (some ⟨cb, 0, none⟩) D.cells.length D.cells.length, .map (some mb), .int .i64 D.steps, .int .i64 D.after, .bool D.dead] 65 (0, 0))
  hc : w.heap[cb]? = some (.cells (flatC D.cells).toArray 73 (0, 0))
  hm : w.heap[mb]? = some (.map (IMap.arr (l.map Ent.i)) clock)
  ents : l.map (fun x => (x.key, x.secs)) = D.opn
  ok : ∀ x ∈ l, EntOk w D.cells.length F x
  apart : l.Pairwise (fun x y => x.val.ownBlock ≠ y.val.ownBlock)
  keys : (l.map (·.key)).Nodup
  borns : (l.map (·.born)).Nodup
  young : ∀ x ∈ l, x.born < clock
  fb : F b
  fc : F cb
  fm : F mb
  lt : ∀ k, F k → k < w.heap.size
  alo : -1 ≤ D.after
  ahi : D.after < 9223372036854775808
  pos : 0 < D.cells.length
  len : D.cells.length ≤ 65536

def IsDsk (w : World) (b : Nat) (D : Dsk) (F : Nat → Prop) : Prop := ∃ cb mb l clock, DskAt w b cb mb l clock D F

/-- What belongs to a disk behind a call. -/
def grow (F : Nat → Prop) (w w' : World) (k : Nat) : Prop := F k ∨ (w.heap.size ≤ k ∧ k < w'.heap.size)

theorem DskAt.b_ne_c {w : World} {b cb mb : Nat} {l : List Ent} {clock : Nat} {D : Dsk} {F : Nat → Prop} (h : DskAt w b cb mb l clock D F) : b ≠ cb := by
  intro e; have h1 := h.hb; have h2 := h.hc; rw [e, h2] at h1; simp at h1
theorem DskAt.b_ne_m {w : World} {b cb mb : Nat} {l : List Ent} {clock : Nat} {D : Dsk} {F : Nat → Prop} (h : DskAt w b cb mb l clock D F) : b ≠ mb := by
  intro e; have h1 := h.hb; have h2 := h.hm; rw [e, h2] at h1; simp at h1
theorem DskAt.c_ne_m {w : World} {b cb mb : Nat} {l : List Ent} {clock : Nat} {D : Dsk} {F : Nat → Prop} (h : DskAt w b cb mb l clock D F) : cb ≠ mb := by
  intro e; have h1 := h.hc; have h2 := h.hm; rw [e, h2] at h1; simp at h1
theorem row_ne {w : World} {e size n k : Nat} {v : Value} {xs : List Value} (h : w.ownsRow 0 e size v n xs) (hn : 0 < n) {o : Obj} (ho : w.heap[k]? = some o) (hne : ∀ C, o ≠ .cells C e (0, 0)) : ∀ g, v.ownBlock = some g → g ≠ k := by
  rintro g hg rfl
  rcases h.2 with ⟨rfl, h0⟩ | ⟨g', cap, cur, rfl, _, hgg, _⟩
  · omega
  · simp [Value.ownBlock] at hg; subst hg
    rw [ho] at hgg
    exact hne _ (Option.some.inj hgg)

theorem EntOk.step {w w' : World} {n : Nat} {F F' : Nat → Prop} {x : Ent} (h : EntOk w n F x) (hF : ∀ k, F k → F' k) (hk : ∀ g, x.val.ownBlock = some g → w'.heap[g]? = w.heap[g]?) : EntOk w' n F' x := by
  refine ⟨?_, h.ne, h.lo, h.hi, fun g hg => hF g (h.foot g hg)⟩
  refine ⟨h.own.1, ?_⟩
  rcases h.own.2 with hn | ⟨g, cap, cur, hv, hb, hg, rest⟩
  · exact .inl hn
  · exact .inr ⟨g, cap, cur, hv, hb, (hk g (by rw [hv]; rfl)).trans hg, rest⟩

/-- The disk is as it was where its blocks are as they were. -/
theorem DskAt.step {w w' : World} {b cb mb : Nat} {l : List Ent} {clock : Nat} {D : Dsk} {F F' : Nat → Prop} (h : DskAt w b cb mb l clock D F) (hF : ∀ k, F k → F' k) (hk : ∀ k, F k → w'.heap[k]? = w.heap[k]?)
    (hlt : ∀ k, F' k → k < w'.heap.size) : DskAt w' b cb mb l clock D F' :=
  { hb := (hk b h.fb).trans h.hb, hc := (hk cb h.fc).trans h.hc, hm := (hk mb h.fm).trans h.hm, ents := h.ents, ok := fun x hx => (h.ok x hx).step hF (fun g hg => hk g ((h.ok x hx).foot g hg)),
    apart := h.apart, keys := h.keys, borns := h.borns, young := h.young, fb := hF _ h.fb, fc := hF _ h.fc, fm := hF _ h.fm, lt := hlt, alo := h.alo, ahi := h.ahi, pos := h.pos, len := h.len }
theorem IsDsk.step {w w' : World} {b : Nat} {D : Dsk} {F F' : Nat → Prop} (h : IsDsk w b D F) (hF : ∀ k, F k → F' k) (hk : ∀ k, F k → w'.heap[k]? = w.heap[k]?) (hlt : ∀ k, F' k → k < w'.heap.size) : IsDsk w' b D F' := by
  obtain ⟨cb, mb, l, clock, h⟩ := h
  exact ⟨cb, mb, l, clock, h.step hF hk hlt⟩
theorem IsDsk.lt {w : World} {b : Nat} {D : Dsk} {F : Nat → Prop} (h : IsDsk w b D F) : ∀ k, F k → k < w.heap.size := by
  obtain ⟨cb, mb, l, clock, h⟩ := h; exact h.lt
/-- Behind a call that leaves alone what is the disk's. -/
theorem IsDsk.kept {w w' : World} {b : Nat} {D : Dsk} {F G : Nat → Prop} (h : IsDsk w b D F) (hk : Kp G w w') (hd : ∀ k, F k → ¬ G k) : IsDsk w' b D F :=
  h.step (fun _ h => h) (fun k hF => hk.block k (h.lt k hF) (hd k hF)) (fun k hF => Nat.lt_of_lt_of_le (h.lt k hF) hk.size)
theorem IsDsk.alloc {w : World} {b : Nat} {D : Dsk} {F : Nat → Prop} (h : IsDsk w b D F) (o : Obj) : IsDsk (w.alloc o) b D F :=
  h.kept ((Kp.refl (fun _ => False) w).alloc o) (fun _ _ e => e)
theorem IsDsk.drew {w : World} {b : Nat} {D : Dsk} {F : Nat → Prop} (h : IsDsk w b D F) : IsDsk w.drew b D F :=
  h.kept ((Kp.refl (fun _ => False) w).drew) (fun _ _ e => e)

/-- A field of the disk is written. -/
theorem DskAt.put {w : World} {b cb mb : Nat} {l : List Ent} {clock : Nat} {D : Dsk} {F : Nat → Prop} (h : DskAt w b cb mb l clock D F) (j : Nat) (v : Value) (D' : Dsk)
    (hc : D'.cells = D.cells) (ho : D'.opn = D.opn)
    (hv : (#[.slice (some ⟨cb, 0, none⟩) D.cells.length D.cells.length, .map (some mb), .int .i64 D.steps, .int .i64 D.after, .bool D.dead] : Array Value).setIfInBounds j v =
      #[.slice (some ⟨cb, 0, none⟩) D.cells.length D.cells.length, .map (some mb), .int .i64 D'.steps, .int .i64 D'.after, .bool D'.dead])
    (ha : -1 ≤ D'.after ∧ D'.after < 9223372036854775808) : DskAt (w.setCell ⟨b, j, none⟩ v) b cb mb l clock D' F where
  hb := by rw [heap_setCell_same h.hb, hv, hc]
  hc := by rw [heap_setCell_ne (a := ⟨b, j, none⟩) h.b_ne_c.symm, hc]; exact h.hc
  hm := by rw [heap_setCell_ne (a := ⟨b, j, none⟩) h.b_ne_m.symm]; exact h.hm
  ents := by rw [ho]; exact h.ents
  ok := fun x hx => by
    rw [hc]
    refine (h.ok x hx).step (fun _ h => h) (fun g hg => heap_setCell_ne (a := ⟨b, j, none⟩) ?_ v)
    exact row_ne (h.ok x hx).own (by have := (h.ok x hx).ne; cases hs : x.secs <;> simp_all) h.hb (by intro C; simp) g hg
  apart := h.apart
  keys := h.keys
  borns := h.borns
  young := h.young
  fb := h.fb
  fc := h.fc
  fm := h.fm
  lt := fun k hk => by simpa using h.lt k hk
  alo := ha.1
  ahi := ha.2
  pos := by rw [hc]; exact h.pos
  len := by rw [hc]; exact h.len

/-! ### The operations, as lists -/
def Dsk.chk (D : Dsk) (i : Int) : Int := if D.dead then 220 else if i < 0 ∨ (D.cells.length : Int) ≤ i then 1 else 0
def Dsk.stpE (D : Dsk) : Int := if D.after = 0 then 220 else 0
def Dsk.stp (D : Dsk) : Dsk := if D.after = 0 then { D with dead := true } else { D with after := if 0 < D.after then D.after - 1 else D.after, steps := wrap64 (D.steps + 1) }
def Dsk.at (D : Dsk) (i : Int) : List Sec := ((D.opn.find? (fun x => x.1 == i)).map (·.2)).getD []
def Dsk.cell (D : Dsk) (i : Int) : Sec × Bool := D.cells.getD i.toNat (zsec, false)
/-- What Read finds where check has no error. -/
def Dsk.look (D : Dsk) (i : Int) : Sec × Int :=
  if D.at i ≠ [] then ((D.at i).getLastD zsec, 0) else if (D.cell i).2 then (zsec, 221) else ((D.cell i).1, 0)
def Dsk.read (D : Dsk) (i : Int) : Sec × Int := if D.chk i ≠ 0 then (zsec, D.chk i) else D.look i

end Go.Proofs.Ytopeelclhpjngaa
