/- The contract of sectors: the numbers of the sectors with open writes, sorted. -/
import Derived.Test.YtopeelclhpjngaaDiskF
import Derived.Test.YtopeelclhpjngaaShelf
import Derived.Sort.OwnSortedInts
namespace Go.Proofs.Ytopeelclhpjngaa
set_option linter.unusedSimpArgs false
set_option linter.unusedVariables false
open Go Go.ChangeMaps Go.RowKit Go.Proofs

/-- The numbers of the sectors with open writes. -/
def Dsk.keys (D : Dsk) : List Int := (D.opn.map (·.1)).mergeSort (fun x y => decide (x ≤ y))

/-- The loop of sectors under way. -/
def SecsAt (w0 : World) (b cb mb r : Nat) (l : List Ent) (clock : Nat) (D : Dsk) (F : Nat → Prop) (v : Value) (w : World) : Prop :=
  ∃ (acc : List Int) (seen : Array Nat), DskAt w b cb mb l clock D F ∧ w.heap[r]? = some (.mapIter (some mb) clock seen clock) ∧
    acc.Perm ((l.filter (fun x => seen.contains x.born)).map (·.key)) ∧ w.ownsRow (w0.heap.size + 1) 3 1 v acc.length (acc.map (Value.int .i64)) ∧ Kp (fun _ => False) w0 w

theorem left_less (es : Array MapEntry) (seen : Array Nat) (n : Nat) (h : ∃ e ∈ es, e.born = n ∧ seen.contains n = false) : (leftOf es (seen.push n)).size < (leftOf es seen).size := by
  obtain ⟨e, he, rfl, hn⟩ := h
  have h1 : leftOf es (seen.push e.born) = (leftOf es seen).filter (fun x => !(x.born == e.born)) := by
    simp only [leftOf, Array.filter_filter]
    apply Array.filter_congr rfl
    · funext x
      simp only [Array.contains_push, Bool.not_or]
      rw [BEq.comm (a := x.born)]
      try exact Bool.and_comm _ _
    all_goals rfl
  rw [h1]
  apply Array.size_filter_lt_size_iff_exists.2
  exact ⟨e, by simp only [leftOf, Array.mem_filter]; exact ⟨he, by simpa using hn⟩, by simp⟩

theorem info_int : (Try.prog.info? 3).map (fun i => (i.zero, i.size, i.bytes)) = some (some (.int .i64 0), 1, 8) := by kernel_rfl

theorem perm_step {l : List Ent} {seen : Array Nat} {acc : List Int} {x : Ent} (hx : x ∈ l) (hb : (l.map (·.born)).Nodup) (hs : seen.contains x.born = false) (h : acc.Perm ((l.filter (fun y => seen.contains y.born)).map (·.key))) :
    (acc ++ [x.key]).Perm ((l.filter (fun y => (seen.push x.born).contains y.born)).map (·.key)) := by
  have key : ∀ l : List Ent, x ∈ l → (l.map (·.born)).Nodup → ((l.filter (fun y => seen.contains y.born)).map (·.key) ++ [x.key]).Perm ((l.filter (fun y => (seen.push x.born).contains y.born)).map (·.key)) := by
    intro l
    induction l with
    | nil => intro h; simp at h
    | cons a r ih =>
      intro hm hn
      simp only [List.map_cons, List.nodup_cons] at hn
      by_cases e : a = x
      · subst e
        have h1 : (seen.push a.born).contains a.born = true := by simp [Array.contains_push]
        have h2 : r.filter (fun y => (seen.push a.born).contains y.born) = r.filter (fun y => seen.contains y.born) := by
          apply List.filter_congr
          intro y hy
          have : y.born ≠ a.born := fun e => hn.1 (List.mem_map.2 ⟨y, hy, e⟩)
          simp [Array.contains_push, this]
        rw [List.filter_cons_of_neg (by simpa using hs), List.filter_cons_of_pos (p := fun (y : Ent) => (seen.push a.born).contains y.born) h1, h2, List.map_cons]
        exact List.perm_append_singleton _ _
      · have hxr : x ∈ r := by
          rcases List.mem_cons.1 hm with e' | h'
          · exact absurd e'.symm e
          · exact h'
        have hne : a.born ≠ x.born := fun e' => hn.1 (List.mem_map.2 ⟨x, hxr, e'.symm⟩)
        have hc : (seen.push x.born).contains a.born = seen.contains a.born := by simp [Array.contains_push, hne]
        have ih' := ih hxr hn.2
        by_cases hsa : seen.contains a.born = true
        · rw [List.filter_cons_of_pos (p := fun (y : Ent) => seen.contains y.born) hsa, List.filter_cons_of_pos (p := fun (y : Ent) => (seen.push x.born).contains y.born) (by rw [hc]; exact hsa), List.map_cons, List.map_cons, List.cons_append]
          exact ih'.cons _
        · rw [List.filter_cons_of_neg (p := fun (y : Ent) => seen.contains y.born) hsa, List.filter_cons_of_neg (p := fun (y : Ent) => (seen.push x.born).contains y.born) (by rw [hc]; exact hsa)]
          exact ih'
  exact (h.append_right [x.key]).trans (key l hx hb)

theorem sort_perm {a b : List Int} (h : a.Perm b) : a.mergeSort (fun x y => decide (x ≤ y)) = b.mergeSort (fun x y => decide (x ≤ y)) := by
  have hs : ∀ l : List Int, (l.mergeSort (fun x y => decide (x ≤ y))).Pairwise (fun x y => decide (x ≤ y) = true) := fun l =>
    List.pairwise_mergeSort (le := fun x y => decide (x ≤ y)) (by intro a b c h1 h2; simp at *; omega) (by intro a b; simp; omega) l
  have hp : (a.mergeSort (fun x y => decide (x ≤ y))).Perm (b.mergeSort (fun x y => decide (x ≤ y))) := (List.mergeSort_perm a _).trans (h.trans (List.mergeSort_perm b _).symm)
  exact List.Perm.eq_of_pairwise (fun x y _ _ h1 h2 => by simp at h1 h2; omega) (hs a) (hs b) hp

theorem length_of_range : ∀ (n : Nat) (l : List Int), l.Nodup → (∀ x ∈ l, 0 ≤ x ∧ x < n) → l.length ≤ n
  | 0, l, _, h => by
    cases l with
    | nil => simp
    | cons a r => have := h a (by simp); omega
  | n + 1, l, hn, h => by
    have h1 := length_of_range n (l.erase (n : Int)) (hn.erase _) (fun x hx => by
      have h2 := h x (List.mem_of_mem_erase hx)
      have h3 : x ≠ (n : Int) := fun e => by subst e; exact hn.not_mem_erase hx
      omega)
    have h2 := List.length_erase (a := (n : Int)) (l := l)
    split at h2 <;> omega

theorem DskAt.few {w : World} {b cb mb : Nat} {l : List Ent} {clock : Nat} {D : Dsk} {F : Nat → Prop} (h : DskAt w b cb mb l clock D F) : l.length ≤ 65536 := by
  have := length_of_range D.cells.length (l.map (·.key)) h.keys (fun x hx => by
    obtain ⟨y, hy, rfl⟩ := List.mem_map.1 hx
    exact ⟨(h.ok y hy).lo, (h.ok y hy).hi⟩)
  rw [List.length_map] at this
  have := h.len
  omega

set_option maxRecDepth 100000 in
set_option maxHeartbeats 4000000 in
theorem sectors_c (w : World) (b : Nat) (D : Dsk) (F : Nat → Prop) (h : IsDsk w b D F) :
    Calls Try.prog 36 #[.pointer (some ⟨b, 0, none⟩)] w fun e w' => ∃ v, e = .returned v ∧ w'.ownsRow (w.heap.size + 1) 3 1 v D.keys.length (D.keys.map (Value.int .i64)) ∧ Kp (fun _ => False) w w' := by
  obtain ⟨cb, mb, l, clock, hD⟩ := h
  have hc1 := (dsk_cells hD).2.1
  have hrange := run_range_map (P := Try.prog) w 63 3 43 mb _ clock Try.underlying63 hD.hm
  have HD := Lib.hid hD
  have hnr : ¬ F w.heap.size := fun hf => absurd (hD.lt _ hf) (Nat.lt_irrefl _)
  have hlenl := hD.few
  have HLL := Lib.hid hlenl
  obtain ⟨i0, hi0, hz0, hz1, hz2⟩ := info_parts info_int
  have HI := Lib.hid (And.intro hi0 (And.intro hz0 (And.intro hz1 hz2)))
  clear hi0 hz0 hz1 hz2
  clear hD hlenl
  go_enter Try.func36, Try.ntmps36
  go_wp2_with fail
  clear hc1 hrange
  obtain ⟨r, hrdef⟩ : ∃ r, w.heap.size = r := ⟨_, rfl⟩
  rw [hrdef] at hnr
  rw [hrdef]
  have HRD := Lib.hid hrdef
  clear hrdef
  go_loopw [3] (fun v wr => SecsAt w b cb mb r l clock D F v wr) (fun _ wr => wr.rangeLeft mb r)
  case atStart =>
    refine ⟨[], #[], ?_, ?_, ?_, World.ownsRow_nil _ _ _ _, (Kp.refl _ _).alloc _⟩
    · exact HD.out.step (fun _ h => h) (fun k hk => Below.heap_alloc _ _ _ (HD.out.lt k hk)) (fun k hk => by have := HD.out.lt k hk; simp; omega)
    · rw [← HRD.out]; exact heap_alloc_new _ _
    · simp
  case round =>
    obtain ⟨acc, seen, hD, hr, hperm, hown, hKp⟩ := hrel
    have hold : ∀ x ∈ (IMap.arr (l.map Ent.i)).toList, x.born < clock := by
      intro x hx
      simp only [IMap.arr, IMap.es, List.map_map, List.mem_map] at hx
      obtain ⟨y, hy, rfl⟩ := hx
      exact hD.young y hy
    have hleft : wr.rangeLeft mb r = (leftOf (IMap.arr (l.map Ent.i)) seen).size := by simp only [World.rangeLeft, hD.hm, hr]
    rcases run_next_at (P := Try.prog) wr 0 r mb clock clock seen _ clock hr hD.hm hold (Nat.le_refl _) with ⟨hz, hrun⟩ | ⟨e, he, w1, hw1, hrun⟩
    · have hall : l.filter (fun x => seen.contains x.born) = l := by
        apply List.filter_eq_self.2
        intro x hx
        cases hc : seen.contains x.born with
        | true => rfl
        | false =>
          exfalso
          have hm : ({ key := .int .i64 x.key, val := x.val, born := x.born } : MapEntry) ∈ leftOf (IMap.arr (l.map Ent.i)) seen := by
            simp only [leftOf, Array.mem_filter, IMap.arr, IMap.es, List.mem_toArray, List.map_map, List.mem_map]
            exact ⟨⟨x, hx, rfl⟩, by rw [hc]; rfl⟩
          rw [Array.eq_empty_of_size_eq_zero hz] at hm
          simp at hm
      rw [hall] at hperm
      have hkeys : acc.mergeSort (fun x y => decide (x ≤ y)) = D.keys := by
        unfold Dsk.keys
        rw [← HD.out.ents, List.map_map]
        exact sort_perm hperm
      have hkl : D.keys.length = acc.length := by rw [← hkeys, List.length_mergeSort]
      have hal : acc.length < 4611686018427387904 := by
        have := hperm.length_eq
        rw [List.length_map] at this
        have := HLL.out
        omega
      have HF := Lib.hid (And.intro hkeys (And.intro hkl (And.intro hD hKp)))
      clear hkeys hkl hD hKp hold hr hperm hall hleft hz
      by_cases h0 : acc.length = 0
      · have hacc : acc = [] := List.eq_nil_of_length_eq_zero h0
        subst hacc
        rcases hown.2 with ⟨rfl, _⟩ | ⟨g, cap, cur, rfl, hrest⟩
        · clear hown hal
          go_wp2_with (first | (go_at_call 42; refine (Try.slices_Sort_int_none _ _ _).mono ?_; rintro e w' ⟨rfl, rfl⟩))
          go_ret
          obtain ⟨hkeys, hkl, hD, hKp⟩ := HF.out
          have hk0 : D.keys = [] := by rw [← hkeys]; simp
          rw [hk0]
          exact ⟨_, rfl, World.ownsRow_nil _ _ _ _, hKp⟩
        · have hg : Hid (wr.ownsRow (w.heap.size + 1) 3 1 (.slice (some ⟨g, 0, none⟩) 0 cap) 0 []) := by have := hown; rw [List.length_nil] at this; exact Lib.hid this
          clear hown hal hrest
          go_wp2_with (first | (go_at_call 42; refine (Try.slices_Sort_int_none _ _ _).mono ?_; rintro e w' ⟨rfl, rfl⟩))
          go_ret
          obtain ⟨hkeys, hkl, hD, hKp⟩ := HF.out
          have hk0 : D.keys = [] := by rw [← hkeys]; simp
          rw [hk0]
          exact ⟨_, rfl, hg.out, hKp⟩
      · rcases hown.2 with ⟨rfl, hbad⟩ | ⟨g, cap, cur, rfl, hbase, hg, hcap, hmax, hsize, htake⟩
        · exact absurd hbad h0
        · have hH := holds_of_blockI (ss := acc) hg (by rw [Nat.mul_one] at htake; exact htake)
          have hblk := lt_of_heap hg
          have HG := Lib.hid (And.intro hg (And.intro hbase (And.intro hcap (And.intro hmax (And.intro hsize hH)))))
          have HAL := Lib.hid (And.intro hal hblk)
          clear hown hal hg hbase hcap hmax hsize htake hH h0 hblk
          go_wp2_with (first | (go_at_call 42; refine (Try.slices_Sort_int g 0 cap acc _ HG.out.2.2.2.2.2 HAL.out.2 HAL.out.1).mono ?_; rintro e w' ⟨rfl, n, os, rfl⟩))
          go_ret
          obtain ⟨hkeys, hkl, hD, hKp⟩ := HF.out
          obtain ⟨hg, hbase, hcap, hmax, hsize, hH⟩ := HG.out
          refine ⟨_, rfl, ?_, hKp.grown (grownBy_sortedI _) (fun k hk hlt => ?_)⟩
          · rw [hkeys, hkl]
            exact ownsRow_sortedI (ss := acc) hkl hbase hg hcap hmax hsize
          · cases hk; omega
    · obtain ⟨x, hx, rfl⟩ : ∃ x ∈ l, e = { key := .int .i64 x.key, val := x.val, born := x.born } := by
        have he' := (Array.mem_filter.1 (Array.mem_def.2 he)).1
        simp only [IMap.arr, IMap.es, List.map_map, List.mem_toArray, List.mem_map] at he'
        obtain ⟨x, hx, rfl⟩ := he'
        exact ⟨x, hx, rfl⟩
      have hsx : seen.contains x.born = false := by
        have he' := (Array.mem_filter.1 (Array.mem_def.2 he)).2
        simpa using he'
      simp only at hrun
      obtain ⟨W, hW⟩ : ∃ W, W = setBlock w1 r (.mapIter (some mb) clock (seen.push x.born) clock) := ⟨_, rfl⟩
      rw [← hW] at hrun
      have hw1h : ∀ k : Nat, w1.heap[k]? = wr.heap[k]? := by rcases hw1 with rfl | rfl <;> exact fun _ => rfl
      have hw1s : w1.heap.size = wr.heap.size := by rcases hw1 with rfl | rfl <;> rfl
      have hWr : W.heap[r]? = some (.mapIter (some mb) clock (seen.push x.born) clock) := by rw [hW]; exact heap_setBlock_same ((hw1h r).trans hr)
      have hWo : ∀ k : Nat, k ≠ r → W.heap[k]? = wr.heap[k]? := fun k hk => by rw [hW, heap_setBlock_ne hk]; exact hw1h k
      have hWs : W.heap.size = wr.heap.size := by rw [hW, size_setBlock, hw1s]
      have hrk : w.heap.size = r := HRD.out
      have hWK : Kp (fun _ => False) w W := by
        have : Kp (fun _ => False) w w1 := by rcases hw1 with rfl | rfl; exact hKp; exact hKp.drew
        rw [hW]; exact this.setBlock (fun h => absurd h (by omega)) _
      have hWD := hD.step (w' := W) (fun _ h => h) (fun k hk => hWo k (fun e => hnr (e ▸ hk))) (fun k hk => by rw [hWs]; exact hD.lt k hk)
      have hent := run_entry_at (P := Try.prog) W r mb clock seen _ clock { key := .int .i64 x.key, val := x.val, born := x.born } hWr hWD.hm
        (by simp only [IMap.arr, IMap.es, List.map_map, List.mem_map]; exact ⟨x, hx, rfl⟩)
        (by have := hWD.borns; simpa [IMap.arr, IMap.es, Function.comp_def, Ent.i] using this)
      simp only at hent
      have hownW : W.ownsRow (w.heap.size + 1) 3 1 u3 acc.length (acc.map (Value.int .i64)) := hown.kept (row := some r) ⟨by rw [hWK.os, hKp.os], by rw [hWK.tape, hKp.tape], by rw [hWK.output, hKp.output], by omega, fun k hk hne => hWo k (fun e => hne (by rw [e]))⟩
        (by
          cases hv : u3.ownBlock with
          | none => exact .inl rfl
          | some g => right; intro e; cases e; have := (hown.lt r hv).1; omega)
      have hal : acc.length ≤ 65536 := by
        have h1 := hperm.length_eq
        rw [List.length_map] at h1
        have h2 := List.length_filter_le (fun x => seen.contains x.born) l
        have := HLL.out
        omega
      have hperm' := perm_step hx hWD.borns hsx hperm
      have hmeas : (leftOf (IMap.arr (l.map Ent.i)) (seen.push x.born)).size < (leftOf (IMap.arr (l.map Ent.i)) seen).size := left_less _ seen x.born (by
        refine ⟨{ key := .int .i64 x.key, val := x.val, born := x.born }, ?_, rfl, hsx⟩
        simp only [IMap.arr, IMap.es, List.map_map, List.mem_toArray, List.mem_map]; exact ⟨x, hx, rfl⟩)
      have HX := Lib.hid (And.intro hWD (And.intro hWr (And.intro hperm' (And.intro hWK (And.intro hleft hmeas)))))
      have HO := Lib.hid hownW
      have HAL := Lib.hid hal
      have hWsz := Lib.hid hWs
      have HWR := Lib.hid (lt_of_heap hWr)
      clear hWD hWr hWo hw1h hw1s hW hD hr hKp hold hown hownW he hw1 hWs hWK hperm hperm' hleft hmeas hal hsx hx hrk
      go_wp2_with (first
        | (at_builtin; refine wpList_append_lies _ (by rfl) _ _ 41 (by rfl) (w.heap.size + 1) 3 i0 _ 1 8 Try.underlying41 HI.out.1 HI.out.2.1 HI.out.2.2.1 HI.out.2.2.2 rfl (by omega) u3 acc.length (acc.map (Value.int .i64)) (by rfl) (HO.out.alloc _) ⟨W.heap.size, 0, none⟩ 1 1 [.int .i64 x.key] (by rfl) rfl (World.news_of_block (cs := #[.int .i64 x.key]) (t := 3) (fr := (0, 0)) (heap_alloc_new W _)) (by simp [Value.oneCell']) (by omega) (by have := HAL.out; unfold maxLen; omega) (by have := HAL.out; omega) (by have := HWR.out; have := HRD.out; simp; omega) (W.heap.size + 1) (by simp) ?_))
      intro gg cap w2 hown2 hgrow hat hlt
      have HE := Lib.hid (And.intro hown2 (And.intro hgrow hat))
      clear hown2 hgrow hat hlt
      have hrow : ∀ k, u3.ownBlock = some k → w.heap.size + 1 ≤ k := fun k hk => (HO.out.lt k hk).1
      have hkeep : ∀ k, k < W.heap.size → u3.ownBlock ≠ some k → w2.heap[k]? = W.heap[k]? := fun k hk hn =>
        (HE.out.2.1.block k (by simp; omega) (fun e => hn e.symm)).trans (Below.heap_alloc _ _ _ hk)
      have hr2 : w2.heap[r]? = some (.mapIter (some mb) clock (seen.push x.born) clock) :=
        (hkeep r HWR.out (fun e => by have := hrow r e; have := HRD.out; omega)).trans HX.out.2.1
      have hD2 : DskAt w2 b cb mb l clock D F := HX.out.1.step (fun _ h => h)
        (fun k hk => hkeep k (HX.out.1.lt k hk) (fun e => by have := hrow k e; have := HD.out.lt k hk; omega))
        (fun k hk => Nat.lt_of_lt_of_le (Nat.lt_succ_of_lt (HX.out.1.lt k hk)) (by have := HE.out.2.1.size; simpa using this))
      have HH := Lib.hid (And.intro hrow (And.intro hr2 hD2))
      clear hrow hr2 hD2 hkeep
      go_wp2
      go_roundw
      case rel =>
        obtain ⟨hrow, hr2, hD2⟩ := HH.out
        refine ⟨acc ++ [x.key], seen.push x.born, hD2, hr2, HX.out.2.2.1, ?_, ?_⟩
        · have := HE.out.1
          simpa using this
        · exact (HX.out.2.2.2.1.alloc _).grown HE.out.2.1 (fun k hk hlt => by have := hrow k hk; omega)
      case measure =>
        obtain ⟨hrow, hr2, hD2⟩ := HH.out
        have h1 : w2.rangeLeft mb r = (leftOf (IMap.arr (l.map Ent.i)) (seen.push x.born)).size := by simp only [World.rangeLeft, hD2.hm, hr2]
        rw [h1, HX.out.2.2.2.2.1]
        exact HX.out.2.2.2.2.2

end Go.Proofs.Ytopeelclhpjngaa
