/- Contracts of Read and Rot. -/
import Derived.Test.YtopeelclhpjngaaDiskA
import Derived.Test.YtopeelclhpjngaaAgg
namespace Go.Proofs.Ytopeelclhpjngaa
set_option linter.unusedSimpArgs false
set_option linter.unusedVariables false
open Go Go.ChangeMaps Go.RowKit Go.Proofs

theorem sizeSec : (Try.prog.info? 33).map (·.size) = some 64 := by kernel_rfl
theorem sizeCell : (Try.prog.info? 73).map (·.size) = some 65 := by kernel_rfl
theorem bytesSec : (Try.prog.info? 33).map (fun i => (i.zero, i.size, i.bytes)) = some (some (bv zsec), 64, 64) := by kernel_rfl
theorem bytesCell : (Try.prog.info? 73).map (fun i => (i.zero, i.size, i.bytes)) = some (some (av (ccells (zsec, false))), 65, 65) := by kernel_rfl
theorem zero_of {P : Program} {T : TypeId} {z : Value} {s b : Nat} (h : (P.info? T).map (fun i => (i.zero, i.size, i.bytes)) = some (some z, s, b)) (w : World) : (zeroValue T).run P w = .ok z w := by
  obtain ⟨i, hi, hz, _⟩ := info_parts h
  simp [zeroValue, typeInfo, hi, hz]
theorem zeroSec (w : World) : (zeroValue 33).run Try.prog w = .ok (av (bcells zsec)) w := zero_of bytesSec w
theorem zeroCell (w : World) : (zeroValue 73).run Try.prog w = .ok (av (ccells (zsec, false))) w := zero_of bytesCell w
theorem build0Sec (w : World) : (Instr.build 33 #[]).run Try.prog w = .ok (av (bcells zsec)) w :=
  run_build_none w _ _ _ Try.underlying33 rfl zeroSec (by intro n e he; cases he; kernel_rfl)
theorem lenSec (s : Sec) : (Try.prog.info? 33).map (·.size) = some (bcells s).length := by rw [sizeSec, length_bcells]
theorem lenCell (c : Sec × Bool) : (Try.prog.info? 73).map (·.size) = some (ccells c).length := by rw [sizeCell, length_ccells]
theorem ccells_one (c : Sec × Bool) : ∀ v ∈ ccells c, v.oneCell' = true := by
  intro v hv
  rcases List.mem_append.1 hv with h | h
  · exact bcells_one _ v h
  · simp at h; subst h; rfl

/-- A cell of the disk, in its block. -/
theorem cell_range {w : World} {cb : Nat} {cells : List (Sec × Bool)} {t : TypeId} {fr : Nat × Nat} (hc : w.heap[cb]? = some (.cells (flatC cells).toArray t fr)) (k : Nat) (hk : k < cells.length) :
    w.rangeAt cb (k * 65) (ccells cells[k]) := by
  refine rangeAt_of hc _ _ ?_
  rw [length_ccells]
  exact flat_at ccells 65 length_ccells cells k hk
theorem cell_sec {w : World} {cb : Nat} {cells : List (Sec × Bool)} {t : TypeId} {fr : Nat × Nat} (hc : w.heap[cb]? = some (.cells (flatC cells).toArray t fr)) (k : Nat) (hk : k < cells.length) :
    w.rangeAt cb (k * 65) (bcells cells[k].1) := fun j v hv => by
  refine cell_range hc k hk j v ?_
  have hj : j < 64 := by
    have := (List.getElem?_eq_some_iff.1 hv).1
    simpa using this
  rw [ccells, List.getElem?_append_left (by simpa using hj)]
  exact hv
theorem cell_bad {w : World} {cb : Nat} {cells : List (Sec × Bool)} {t : TypeId} {fr : Nat × Nat} (hc : w.heap[cb]? = some (.cells (flatC cells).toArray t fr)) (k : Nat) (hk : k < cells.length) :
    w.cell? ⟨cb, k * 65 + 64, none⟩ = some (.bool cells[k].2) :=
  cell_range hc k hk 64 _ (by rw [ccells, List.getElem?_append_right (by simp)]; simp)
/-- The j-th of the sectors of an owned row. -/
theorem row_sec {w : World} {T : TypeId} {base g cap : Nat} {L : List Sec} (h : w.ownsRow base T 64 (.slice (some ⟨g, 0, none⟩) L.length cap) L.length (flatS L)) (j : Nat) (hj : j < L.length) :
    w.rangeAt g (j * 64) (bcells L[j]) := fun i v hv => by
  have hi : i < 64 := by
    have := (List.getElem?_eq_some_iff.1 hv).1
    simpa using this
  have hflat := flat_at bcells 64 length_bcells L j hj
  have := h.cells rfl (j * 64 + i) v (by
    have h2 := congrArg (fun l => l[i]?) hflat
    simp only [List.getElem?_take, hi, if_true, List.getElem?_drop] at h2
    rw [flatS, h2]; exact hv)
  rwa [Addr.add_mid, Nat.zero_add] at this

/-- What the map of open writes holds for a sector. -/
theorem at_of {w : World} {b cb mb : Nat} {l : List Ent} {clock : Nat} {D : Dsk} {F : Nat → Prop} (h : DskAt w b cb mb l clock D F) (i : Int) :
    (∃ x ∈ l, x.key = i ∧ (IMap.get (l.map Ent.i) i).getD (.slice none 0 0) = x.val ∧ D.at i = x.secs) ∨ ((∀ x ∈ l, x.key ≠ i) ∧ (IMap.get (l.map Ent.i) i).getD (.slice none 0 0) = .slice none 0 0 ∧ D.at i = []) := by
  have ho := h.ents
  simp only [Dsk.at, ← ho, IMap.get, List.find?_map, Function.comp_def, Ent.i]
  cases hf : l.find? (fun x => x.key == i) with
  | none =>
    right
    refine ⟨fun x hx => ?_, by simp, by simp⟩
    have := List.find?_eq_none.1 hf x hx
    simpa using this
  | some x =>
    left
    have hx := List.mem_of_find?_eq_some hf
    have hk := List.find?_some hf
    exact ⟨x, hx, by simpa using hk, by simp [Ent.i], by simp⟩

theorem chk0 {D : Dsk} {i : Int} (h : D.chk i = 0) : D.dead = false ∧ 0 ≤ i ∧ i < D.cells.length := by
  unfold Dsk.chk at h
  split at h
  · omega
  · split at h
    · omega
    · rename_i h1 h2
      refine ⟨by simpa using h1, by omega, by omega⟩

set_option maxRecDepth 100000 in
set_option maxHeartbeats 1000000 in
theorem read_c (w : World) (b : Nat) (D : Dsk) (F : Nat → Prop) (h : IsDsk w b D F) (i : Int) :
    Calls Try.prog 11 #[.pointer (some ⟨b, 0, none⟩), .int .i64 i] w fun e w' => e = .returned (.tuple #[bv (D.read i).1, .int .i64 (D.read i).2]) ∧ Kp (fun _ => False) w w' := by
  have hlw := h.lt
  by_cases hk : D.chk i = 0
  · obtain ⟨hd, h0i, hin⟩ := chk0 hk
    have hrd : D.read i = D.look i := by simp [Dsk.read, hk]
    rw [hrd]
    have hzz : ∀ w : World, (zeroValue 43).run Try.prog w = .ok (.slice none 0 0) w := fun w => by kernel_rfl
    obtain ⟨k, rfl⟩ := Int.eq_ofNat_of_zero_le h0i
    have hkn : k < D.cells.length := by omega
    have hk0 : (0 : Int) ≤ (k : Int) := h0i
    have h' := h.alloc (.cells (bcells zsec).toArray 33)
    have hnew := heap_alloc_new w (.cells (bcells zsec).toArray 33)
    have hth := there_of (n := 64) hnew 0 (by simp)
    obtain ⟨cb, mb, l, clock, hD⟩ := h'
    have hat := at_of hD k
    have hlk := run_lookup_imap Try.underlying63 Try.underlying3 _ mb _ clock hD.hm (k : Int) _ (hzz _)
    obtain ⟨h0, h1, h2, h3, h4⟩ := dsk_cells hD
    have hbad := cell_bad hD.hc k hkn
    have hsec := cell_sec hD.hc k hkn
    have hcell : D.cell (k : Int) = D.cells[k] := by simp [Dsk.cell, hkn]
    have HD := Lib.hid hD
    have HC := Lib.hid hk
    have HTh := Lib.hid hth
    clear hnew hth
    clear hD hk h0i hrd hin hlw
    rcases hat with ⟨x, hx, hxk, hget, hsecs⟩ | ⟨_, hget, hsecs⟩
    · rw [hget] at hlk
      have hok := HD.out.ok x hx
      have hlen : 0 < x.secs.length := by have := hok.ne; cases hs : x.secs <;> simp_all
      obtain ⟨g, cap, hval, -, -⟩ := hok.own.form hlen
      have hown := hok.own
      rw [hval] at hlk hown
      obtain ⟨m, hm⟩ : ∃ m, x.secs.length = m + 1 := ⟨x.secs.length - 1, by omega⟩
      have hrow := row_sec hown m (by omega)
      have hlast : (D.at (k : Int)).getLastD zsec = x.secs[m] := by
        rw [hsecs, List.getLastD_eq_getLast?, List.getLast?_eq_getElem?]
        simp [hm]
      have hlook : D.look (k : Int) = (x.secs[m], 0) := by
        rw [Dsk.look, hlast, if_pos (by rw [hsecs]; exact hok.ne)]
      rw [hlook]
      obtain ⟨s, hs⟩ : ∃ s, s = x.secs[m] := ⟨_, rfl⟩
      rw [← hs] at hrow ⊢
      rw [hm] at hlk
      have hmcap : m + 1 ≤ maxLen := by
        rcases hown.2 with ⟨h, _⟩ | ⟨g', cap', cur, hv, _, _, h1, h2, _⟩
        · simp at h
        · simp at hv; omega
      unfold maxLen at hmcap
      have hm0 : (0 : Int) ≤ (m : Int) := Int.natCast_nonneg _
      have hm1 : (m : Int) < ((m + 1 : Nat) : Int) := by omega
      have hsum : IntKind.i64.wrap (((m + 1 : Nat) : Int) - 1) = (m : Int) := by rw [IntWalk.i64_in _ (by omega)]; omega
      have hrow' := Lib.hid hrow
      clear hs hrow hlast hlook hown hval hsecs hget hcell hbad hsec hok hm hxk
      go_enter Try.func11, Try.ntmps11
      go_wp2_with (first
        | ((with_reducible show wpList _ _ _ (Oper.mk _ (Op.alloc _) _ _ _ _ :: _) _ _); refine wpList_allocA 33 rfl rfl (bcells zsec) zeroSec ?_)
        | (go_at_call 34; refine (check_c _ b D F ⟨cb, mb, l, clock, HD.out⟩ k).mono ?_; rintro e w' ⟨rfl, rfl⟩; rw [HC.out])
        | ((with_reducible show wpList _ _ _ (Oper.mk _ (Op.load 33 _) _ _ _ _ :: _) _ _); refine wpList_loadA 33 _ rfl _ rfl g (m * 64) (by simp [Act.eval]) (bcells s) hrow'.out Try.underlying33 rfl (lenSec _) ?_)
        | ((with_reducible show wpList _ _ _ (Oper.mk _ (Op.store 33 _ _) _ _ _ _ :: _) _ _); refine wpList_storeA 33 rfl _ _ rfl w.heap.size 0 (bcells s) rfl rfl (by simpa using HTh.out) (lenSec _) (bcells_one _) ?_))
      refine bodyPost_ret (results_cell2 rfl _ _ w.heap.size 0 rfl (bv s) (run_loadVar_at Try.underlying33 rfl _ _ _ (bcells _) (lenSec _) ?_)) rfl ⟨rfl, ?_⟩
      · exact World.rangeAt_setCells_same _ _ _ _ (by simpa using HTh.out)
      · exact Kp.setCells (fun h => absurd h (Nat.lt_irrefl _)) _ _ _ ((Kp.refl _ w).alloc _)
    · rw [hget] at hlk
      have hlook : D.look (k : Int) = if D.cells[k].2 then (zsec, 221) else (D.cells[k].1, 0) := by simp [Dsk.look, hsecs, hcell]
      rw [hlook]
      clear hget hsecs hlook hcell
      cases hbd : D.cells[k].2
      · have hsec' := Lib.hid hsec
        clear hsec
        go_enter Try.func11, Try.ntmps11
        go_wp2_with (first
          | ((with_reducible show wpList _ _ _ (Oper.mk _ (Op.alloc _) _ _ _ _ :: _) _ _); refine wpList_allocA 33 rfl rfl (bcells zsec) zeroSec ?_)
          | (go_at_call 34; refine (check_c _ b D F ⟨cb, mb, l, clock, HD.out⟩ k).mono ?_; rintro e w' ⟨rfl, rfl⟩; rw [HC.out])
          | ((with_reducible show wpList _ _ _ (Oper.mk _ (Op.load 33 _) _ _ _ _ :: _) _ _); refine wpList_loadA 33 _ rfl _ rfl cb (k * 65) (by simp [Act.eval]) (bcells D.cells[k].1) hsec'.out Try.underlying33 rfl (lenSec _) ?_)
          | ((with_reducible show wpList _ _ _ (Oper.mk _ (Op.store 33 _ _) _ _ _ _ :: _) _ _); refine wpList_storeA 33 rfl _ _ rfl w.heap.size 0 (bcells D.cells[k].1) rfl rfl (by simpa using HTh.out) (lenSec _) (bcells_one _) ?_))
        refine bodyPost_ret (results_cell2 rfl _ _ w.heap.size 0 rfl (bv D.cells[k].1) (run_loadVar_at Try.underlying33 rfl _ _ _ (bcells _) (lenSec _) ?_)) rfl ⟨rfl, ?_⟩
        · exact World.rangeAt_setCells_same _ _ _ _ (by simpa using HTh.out)
        · exact Kp.setCells (fun h => absurd h (Nat.lt_irrefl _)) _ _ _ ((Kp.refl _ w).alloc _)
      · go_enter Try.func11, Try.ntmps11
        go_wp2_with (first
          | ((with_reducible show wpList _ _ _ (Oper.mk _ (Op.alloc _) _ _ _ _ :: _) _ _); refine wpList_allocA 33 rfl rfl (bcells zsec) zeroSec ?_)
          | (go_at_call 34; refine (check_c _ b D F ⟨cb, mb, l, clock, HD.out⟩ k).mono ?_; rintro e w' ⟨rfl, rfl⟩; rw [HC.out])
          | ((with_reducible show wpList _ _ _ (Oper.mk _ (Op.build _ _) _ _ _ _ :: _) _ _); refine wpList_buildA (av (bcells zsec)) 33 rfl _ rfl _ rfl (build0Sec _) ?_)
          | ((with_reducible show wpList _ _ _ (Oper.mk _ (Op.store 33 _ _) _ _ _ _ :: _) _ _); refine wpList_storeA 33 rfl _ _ rfl w.heap.size 0 (bcells zsec) rfl rfl (by simpa using HTh.out) (lenSec _) (bcells_one _) ?_))
        refine bodyPost_ret (results_cell2 rfl _ _ w.heap.size 0 rfl (bv zsec) (run_loadVar_at Try.underlying33 rfl _ _ _ (bcells zsec) (lenSec _) ?_)) rfl ⟨rfl, ?_⟩
        · exact World.rangeAt_setCells_same _ _ _ _ (by simpa using HTh.out)
        · exact Kp.setCells (fun h => absurd h (Nat.lt_irrefl _)) _ _ _ ((Kp.refl _ w).alloc _)
  · have hrd : D.read i = (zsec, D.chk i) := by simp [Dsk.read, hk]
    rw [hrd]
    generalize hc : D.chk i = c at *
    have hb : (c != 0) = true := by simpa using hk
    have HC := Lib.hid hc
    clear hc hrd
    go_enter Try.func11, Try.ntmps11
    go_wp2_with (first
      | ((with_reducible show wpList _ _ _ (Oper.mk _ (Op.alloc _) _ _ _ _ :: _) _ _); refine wpList_allocA 33 rfl rfl (bcells zsec) zeroSec ?_)
      | (go_at_call 34; refine (check_c _ b D F (h.alloc _) i).mono ?_; rintro e w' ⟨rfl, rfl⟩; rw [HC.out])
      | ((with_reducible show wpList _ _ _ (Oper.mk _ (Op.build _ _) _ _ _ _ :: _) _ _); refine wpList_buildA (av (bcells zsec)) 33 rfl _ rfl _ rfl (build0Sec _) ?_)
      | ((with_reducible show wpList _ _ _ (Oper.mk _ (Op.store 33 _ _) _ _ _ _ :: _) _ _); refine wpList_storeA 33 rfl _ _ rfl w.heap.size 0 (bcells zsec) rfl rfl (there_of (heap_alloc_new w _) 0 _ (by simp)) (lenSec _) (bcells_one _) ?_))
    refine bodyPost_ret (results_cell2 rfl _ _ w.heap.size 0 rfl (bv zsec) (run_loadVar_at Try.underlying33 rfl _ _ _ (bcells zsec) (lenSec _) ?_)) rfl ⟨rfl, ?_⟩
    · exact World.rangeAt_setCells_same _ _ _ _ (there_of (heap_alloc_new w _) 0 _ (by simp))
    · exact Kp.setCells (fun h => absurd h (Nat.lt_irrefl _)) _ _ _ ((Kp.refl _ w).alloc _)

end Go.Proofs.Ytopeelclhpjngaa
