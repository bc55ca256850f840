/- Words and run laws that the walks of this seat share: maps with int keys, sectors of 64 bytes, whole blocks, frames. -/
import Derived.WalkKit
import Derived.WalkSpells
import Derived.MapKept
import Derived.Deep.MidRow
import Derived.Deep.AppendLies
import Derived.Maps.AppendAt
import Derived.Lib.Hide
namespace Go.Proofs.Ytopeelclhpjngaa
set_option linter.unusedSimpArgs false
set_option linter.unusedVariables false
open Go Go.ChangeMaps

/-! ### Maps with int keys -/
/-- An entry: the key, the element, the stamp. -/
abbrev IMap := List (Int × Value × Nat)
def IMap.es (l : IMap) : List MapEntry := l.map fun x => { key := .int .i64 x.1, val := x.2.1, born := x.2.2 }
def IMap.arr (l : IMap) : Array MapEntry := l.es.toArray
def IMap.get (l : IMap) (k : Int) : Option Value := (l.find? fun x => x.1 == k).map (·.2.1)
/-- What a store leaves. -/
def IMap.set (k : Int) (v : Value) : IMap → IMap
  | [] => []
  | x :: r => if x.1 == k then (k, v, x.2.2) :: r else x :: IMap.set k v r
def IMap.put (l : IMap) (k : Int) (v : Value) (clock : Nat) : IMap := if l.any (fun x => x.1 == k) then IMap.set k v l else l ++ [(k, v, clock)]
def IMap.tick (l : IMap) (k : Int) (clock : Nat) : Nat := if l.any (fun x => x.1 == k) then clock else clock + 1
def IMap.del (l : IMap) (k : Int) : IMap := l.eraseP fun x => x.1 == k

theorem run_checkKey_int {P : Program} {K : TypeId} (hk : P.underlying K = some (.int .i64)) (w : World) (b : Bool) (k : Int) :
    (Instr.checkKey b 10000 K (.int .i64 k)).run P w = .ok () w := by
  have h : ∀ n : Nat, (Instr.checkKey b (n + 1) K (.int .i64 k)).run P w = .ok () w := fun n => by
    simp only [Instr.checkKey, Sem.run_bind, run_underlying hk, Result.andThen_ok, Sem.run_pure]
  exact h 9999

theorem findNow_imap (k : Int) : ∀ (l : IMap) (i : Nat), Instr.findNow (.int .i64) (.int .i64 k) l.es i =
    some ((l.findIdx? (fun x => x.1 == k)).bind fun j => (l[j]?).map fun x => (i + j, x.2.1))
  | [], i => by simp [IMap.es, Instr.findNow]
  | x :: r, i => by
    have ih := findNow_imap k r (i + 1)
    simp only [IMap.es] at ih
    simp only [IMap.es, List.map_cons, Instr.findNow, Instr.sameNow, if_true, List.findIdx?_cons]
    by_cases h : k = x.1
    · subst h; simp
    · have h1 : (k == x.1) = false := by simp [h]
      have h2 : (x.1 == k) = false := by simp [Ne.symm h]
      simp only [h1, h2, ih]
      cases List.findIdx? (fun x => x.1 == k) r with
      | none => simp
      | some j =>
        simp only [Option.bind_some, Bool.false_eq_true, if_false, Option.map_some, List.getElem?_cons_succ]
        rw [show i + (j + 1) = i + 1 + j by omega]

theorem run_findKey_imap {P : Program} {K : TypeId} (hk : P.underlying K = some (.int .i64)) (w : World) (l : IMap) (k : Int) :
    (Instr.findKey K (.int .i64 k) l.es).run P w = .ok ((l.findIdx? (fun x => x.1 == k)).bind fun j => (l[j]?).map fun x => (j, x.2.1)) w := by
  simp [Instr.findKey, run_underlying hk, findNow_imap]

theorem imap_get_idx (k : Int) (l : IMap) : ((l.findIdx? (fun x => x.1 == k)).bind fun j => (l[j]?).map fun x => x.2.1) = l.get k := by
  unfold IMap.get
  induction l with
  | nil => simp
  | cons x r ih =>
    simp only [List.findIdx?_cons, List.find?_cons]
    cases h : x.1 == k
    · simp only [cond_false, Bool.false_eq_true, if_false]
      rw [← ih]
      cases List.findIdx? (fun x => x.1 == k) r <;> simp
    · simp

/-- 'm[k]', one result. -/
theorem run_lookup_imap {P : Program} {T K E : TypeId} (ht : P.underlying T = some (.map K E)) (hk : P.underlying K = some (.int .i64)) (w : World) (m : Nat) (l : IMap) (clock : Nat)
    (hb : w.heap[m]? = some (.map l.arr clock)) (k : Int) (z : Value) (hz : (zeroValue E).run P w = .ok z w) :
    (Instr.lookup T (.map (some m)) (.int .i64 k) false).run P w = .ok ((l.get k).getD z) w := by
  have h1 := run_findKey_imap hk w l k
  have h2 := imap_get_idx k l
  simp only [Instr.lookup, Sem.run_bind, run_underlying ht, Result.andThen_ok, MapKept.run_getObj_map hb, Sem.run_pure, run_checkKey_int hk, IMap.arr]
  rw [h1]
  cases hf : List.findIdx? (fun x => x.1 == k) l with
  | none => simp [hf] at h2; simp [hf, hz, ← h2]
  | some j =>
    obtain ⟨hj, _⟩ := List.findIdx?_eq_some_iff_getElem.1 hf
    simp [hf, List.getElem?_eq_getElem hj] at h2
    simp [List.getElem?_eq_getElem hj, ← h2]

/-- 'v, ok := m[k]'. -/
theorem run_lookup_imap_ok {P : Program} {T K E : TypeId} (ht : P.underlying T = some (.map K E)) (hk : P.underlying K = some (.int .i64)) (w : World) (m : Nat) (l : IMap) (clock : Nat)
    (hb : w.heap[m]? = some (.map l.arr clock)) (k : Int) (z : Value) (hz : (zeroValue E).run P w = .ok z w) :
    (Instr.lookup T (.map (some m)) (.int .i64 k) true).run P w = .ok (.tuple #[(l.get k).getD z, .bool (l.get k).isSome]) w := by
  have h1 := run_findKey_imap hk w l k
  have h2 := imap_get_idx k l
  simp only [Instr.lookup, Sem.run_bind, run_underlying ht, Result.andThen_ok, MapKept.run_getObj_map hb, Sem.run_pure, run_checkKey_int hk, IMap.arr]
  rw [h1]
  cases hf : List.findIdx? (fun x => x.1 == k) l with
  | none => simp [hf] at h2; simp [hf, hz, ← h2]
  | some j =>
    obtain ⟨hj, _⟩ := List.findIdx?_eq_some_iff_getElem.1 hf
    simp [hf, List.getElem?_eq_getElem hj] at h2
    simp [List.getElem?_eq_getElem hj, ← h2]

theorem es_set (k : Int) (v : Value) : ∀ (l : IMap) (j : Nat), l.findIdx? (fun x => x.1 == k) = some j →
    l.arr.modify j (fun e => { e with key := .int .i64 k, val := v }) = (IMap.set k v l).arr := by
  intro l j hj
  apply Array.toList_inj.1
  simp only [IMap.arr, Array.toList_modify]
  induction l generalizing j with
  | nil => simp at hj
  | cons x r ih =>
    simp only [List.findIdx?_cons] at hj
    cases h : x.1 == k
    · simp [h] at hj
      obtain ⟨j', hj', rfl⟩ := hj
      have := ih j' hj'
      simp only [IMap.es] at this
      simp [IMap.es, IMap.set, h, List.modify_succ_cons, this]
    · simp [h] at hj
      subst hj
      simp [IMap.es, IMap.set, h]

theorem sameBits_int (k : Int) : Instr.sameBits 10000 (.int .i64 k) (.int .i64 k) = true := by simp [Instr.sameBits]

theorem run_update_imap {P : Program} {T K E : TypeId} (ht : P.underlying T = some (.map K E)) (hk : P.underlying K = some (.int .i64)) (w : World) (m : Nat) (l : IMap) (clock : Nat)
    (hb : w.heap[m]? = some (.map l.arr clock)) (k : Int) (v : Value) :
    (Instr.mapUpdate T (.map (some m)) (.int .i64 k) v).run P w = .ok () (setBlock w m (.map (l.put k v clock).arr (l.tick k clock))) := by
  have h1 := run_findKey_imap hk w l k
  simp only [Instr.mapUpdate, Sem.run_bind, run_underlying ht, Result.andThen_ok, MapKept.run_getObj_map hb, run_checkKey_int hk, IMap.arr]
  rw [h1]
  have hany : l.any (fun x => x.1 == k) = (l.findIdx? (fun x => x.1 == k)).isSome := by rw [List.findIdx?_isSome]
  cases hf : List.findIdx? (fun x => x.1 == k) l with
  | none =>
    rw [hf] at hany
    simp only [IMap.put, IMap.tick, hany]
    simp [MapKept.run_setObj_map _ hb, setBlock, IMap.arr, IMap.es]
  | some j =>
    obtain ⟨hj, hkj, _⟩ := List.findIdx?_eq_some_iff_getElem.1 hf
    rw [hf] at hany
    have hs := es_set k v l j hf
    have hkey : l[j].1 = k := by simpa using hkj
    simp only [IMap.arr] at hs
    simp only [IMap.put, IMap.tick, hany, Option.bind_some, List.getElem?_eq_getElem hj, Option.map_some, Sem.run_bind]
    simp [Instr.keyThatStays, IMap.es, hj, hkey, sameBits_int, Result.andThen, MapKept.run_setObj_map _ hb, setBlock]
    simp only [IMap.es, List.modify_toArray] at hs
    have hs' := congrArg Array.toList hs
    simp only at hs'
    rw [hs']

theorem eraseIdx_map' {α β : Type} (f : α → β) : ∀ (l : List α) (j : Nat), (l.map f).eraseIdx j = (l.eraseIdx j).map f
  | [], _ => rfl
  | _ :: _, 0 => rfl
  | x :: r, j + 1 => by simp [List.eraseIdx_cons_succ, eraseIdx_map' f r j]

theorem run_delete_imap {P : Program} {T K E : TypeId} (ht : P.underlying T = some (.map K E)) (hk : P.underlying K = some (.int .i64)) (w : World) (m : Nat) (l : IMap) (clock : Nat)
    (hb : w.heap[m]? = some (.map l.arr clock)) (k : Int) (T' ty : TypeId) :
    (Builtin.delete_ #[T, T'] ty #[.map (some m), .int .i64 k]).run P w = .ok (.tuple #[]) (setBlock w m (.map (l.del k).arr clock)) := by
  have h1 := run_findKey_imap hk w l k
  simp only [Builtin.delete_]
  simp only [List.getElem?_toArray, List.getElem?_cons_zero, List.getElem?_cons_succ, Sem.run_bind, run_underlying ht, Result.andThen_ok, MapKept.run_getObj_map hb, run_checkKey_int hk, IMap.arr]
  rw [h1]
  cases hf : List.findIdx? (fun x => x.1 == k) l with
  | none =>
    have hne : l.del k = l := by
      unfold IMap.del
      apply List.eraseP_of_forall_not
      intro a ha hh
      have := List.findIdx?_eq_none_iff.1 hf a ha
      simp [this] at hh
    simp [hne, MapKept.run_setObj_map _ hb, setBlock, Result.andThen, IMap.arr]
  | some j =>
    obtain ⟨hj, hkj, hmin⟩ := List.findIdx?_eq_some_iff_getElem.1 hf
    have hdel : l.del k = l.eraseIdx j := by
      unfold IMap.del
      rw [List.eraseP_eq_eraseIdx, hf]
    have : (l.es.toArray).eraseIdxIfInBounds j = (IMap.es (List.eraseIdx l j)).toArray := by
      have hj' : j < l.es.toArray.size := by simpa [IMap.es] using hj
      rw [Array.eraseIdxIfInBounds, dif_pos hj']
      simp only [List.eraseIdx_toArray]
      congr 1
      simp only [IMap.es]
      exact (eraseIdx_map' _ l j)
    simp [List.getElem?_eq_getElem hj, MapKept.run_setObj_map _ hb, setBlock, Result.andThen, this, hdel, IMap.arr]

/-! ### Arrays of bytes -/
abbrev Bytes (n : Nat) := Vector Int n
/-- The cells of an array of bytes. -/
def bcells {n : Nat} (s : Bytes n) : List Value := s.toList.map (Value.int .u8)
def bv {n : Nat} (s : Bytes n) : Value := .agg (bcells s).toArray
@[simp] theorem length_bcells {n : Nat} (s : Bytes n) : (bcells s).length = n := by simp [bcells]
theorem bcells_get {n : Nat} (s : Bytes n) (j : Nat) (h : j < n) : (bcells s)[j]? = some (.int .u8 s[j]) := by
  simp [bcells, h]
theorem bcells_one {n : Nat} (s : Bytes n) : ∀ v ∈ bcells s, v.oneCell' = true := by
  intro v hv
  obtain ⟨x, _, rfl⟩ := List.mem_map.1 hv
  rfl
theorem bcells_inj {n : Nat} {s t : Bytes n} (h : bcells s = bcells t) : s = t := by
  have h1 : s.toList = t.toList := by
    have := congrArg (List.map (fun v => match v with | .int _ q => q | _ => 0)) h
    simpa [bcells, Function.comp_def] using this
  exact Vector.toArray_inj.1 (Array.toList_inj.1 h1)

theorem run_part_int {P : Program} {E : TypeId} {k : IntKind} (he : P.underlying E = some (.int k)) (w : World) (cs : Array Value) (j : Nat) (v : Value) (h : cs[j]? = some v) :
    (part E cs j).run P w = .ok v w := by
  simp [part, isAgg, run_underlying he, h]

theorem run_eqLoop {P : Program} {E : TypeId} {n : Nat} (he : P.underlying E = some (.int .u8)) (w : World) (d : Nat) (a b : Bytes n) : ∀ (k s : Nat), s + k = n →
    (forIn (List.range' s k) ((none, ()) : Option Bool × Unit) fun i _ => do
      let x ← part E (bcells a).toArray i
      let y ← part E (bcells b).toArray i
      let r ← Op.equalIn (d + 1) E x y
      if (!r) = true then pure (ForInStep.done (some false, ())) else pure (ForInStep.yield (none, ()))).run P w =
    .ok (if a.toList.drop s = b.toList.drop s then (none, ()) else (some false, ())) w := by
  intro k
  induction k with
  | zero =>
    intro s h
    have h1 : a.toList.drop s = [] := List.drop_eq_nil_of_le (by simp; omega)
    have h2 : b.toList.drop s = [] := List.drop_eq_nil_of_le (by simp; omega)
    simp [h1, h2]
  | succ k ih =>
    intro s h
    have hs : s < n := by omega
    have ga := bcells_get a s hs
    have gb := bcells_get b s hs
    simp only [List.range'_succ, List.forIn_cons, Sem.run_bind]
    rw [run_part_int he w _ s _ (by simpa using ga)]
    simp only [Result.andThen_ok]
    rw [run_part_int he w _ s _ (by simpa using gb)]
    simp only [Result.andThen_ok, run_equalIn_int w d E .u8 .u8 a[s] b[s] he]
    have da : a.toList.drop s = a[s] :: a.toList.drop (s + 1) := by
      rw [List.drop_eq_getElem_cons (by simpa using hs)]; simp
    have db : b.toList.drop s = b[s] :: b.toList.drop (s + 1) := by
      rw [List.drop_eq_getElem_cons (by simpa using hs)]; simp
    rw [da, db]
    by_cases hab : a[s] = b[s]
    · simp only [hab, beq_self_eq_true, Bool.not_true, Bool.false_eq_true, if_false, Sem.run_pure, Result.andThen_ok, List.cons.injEq, true_and]
      exact ih (s + 1) (by omega)
    · have : (a[s] == b[s]) = false := by simp [hab]
      simp [this, hab]

instance {n : Nat} : DecidableEq (Bytes n) := inferInstance

theorem run_equalIn_bytes {P : Program} {T E : TypeId} {n : Nat} (ht : P.underlying T = some (.array n E)) (he : P.underlying E = some (.int .u8)) (hs : (P.info? E).map (·.size) = some 1)
    (w : World) (d : Nat) (a b : Bytes n) : (Op.equalIn (d + 2) T (bv a) (bv b)).run P w = .ok (decide (a = b)) w := by
  unfold bv
  rw [Op.equalIn]
  simp only [Sem.run_bind, run_underlying ht, Result.andThen_ok]
  cases hi : P.info? E with
  | none => simp [hi] at hs
  | some i =>
    have hi1 : i.size = 1 := by simpa [hi] using hs
    simp only [sizeOf, typeInfo, Sem.run_bind, run_program, Result.andThen_ok, hi, Sem.run_pure, hi1, Nat.mul_one]
    rw [Std.Legacy.Range.forIn_eq_forIn_range']
    simp only [Std.Legacy.Range.size, Nat.sub_zero, Nat.add_sub_cancel, Nat.div_one]
    have := run_eqLoop (P := P) he w d a b n 0 (by omega)
    rw [this]
    simp only [List.drop_zero, Result.andThen_ok]
    by_cases hab : a = b
    · subst hab; simp
    · have : ¬ a.toList = b.toList := fun h => hab (Vector.toArray_inj.1 (Array.toList_inj.1 h))
      simp [hab, this]

end Go.Proofs.Ytopeelclhpjngaa
