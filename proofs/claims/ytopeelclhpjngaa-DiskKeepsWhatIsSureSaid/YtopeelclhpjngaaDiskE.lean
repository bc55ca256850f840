/- The contracts of New and Rot. -/
import Derived.Test.YtopeelclhpjngaaDiskD
namespace Go.Proofs.Ytopeelclhpjngaa
set_option linter.unusedSimpArgs false
set_option linter.unusedVariables false
open Go Go.ChangeMaps Go.RowKit Go.Proofs

theorem range_cells (zs : List Value) (hz : 0 < zs.length) : ∀ n : Nat, ((List.range (n * zs.length)).map (fun x => (zs.toArray)[x % zs.length]!)) = (List.replicate n zs).flatten
  | 0 => by simp
  | n + 1 => by
    have ih := range_cells zs hz n
    rw [Nat.add_mul, Nat.one_mul, Nat.add_comm, List.range_add, List.map_append, List.replicate_succ, List.flatten_cons, ← ih]
    congr 1
    · apply List.ext_getElem
      · simp
      · intro i h1 h2
        have hi : i < zs.length := by simpa using h2
        simp [Nat.mod_eq_of_lt hi, hi]
    · rw [List.map_map]
      apply List.map_congr_left
      intro x _
      simp

theorem madeCells_flat (n : Nat) : madeCells (av (ccells (zsec, false))).cells (n * 65) = (flatC (List.replicate n (zsec, false))).toArray := by
  have h := range_cells (ccells (zsec, false)) (by simp) n
  have e : (ccells (zsec, false)).length = 65 := length_ccells _
  rw [e] at h
  apply Array.toList_inj.1
  simp only [madeCells, av_cells, List.size_toArray, e, Array.toList_map, Array.toList_range]
  rw [h]
  simp [flatC, List.flatMap, List.map_replicate]

def newDsk (n : Nat) : Dsk := ⟨List.replicate n (zsec, false), [], 0, -1, false⟩

set_option maxRecDepth 100000 in
theorem new_no (w : World) (n : Int) (h : n < 1 ∨ 65536 < n) : Calls Try.prog 7 #[.int .i64 n] w fun e w' => e = .returned (.pointer none) ∧ w = w' := by
  by_cases h1 : n < 1
  · go_enter Try.func7, Try.ntmps7
    go_wp2
    go_ret
    exact ⟨rfl, rfl⟩
  · have h2 : 65536 < n := by omega
    go_enter Try.func7, Try.ntmps7
    go_wp2
    go_ret
    exact ⟨rfl, rfl⟩

set_option maxRecDepth 100000 in
set_option maxHeartbeats 1000000 in
theorem new_yes (w : World) (n : Nat) (h1 : 1 ≤ n) (h2 : n ≤ 65536) : Calls Try.prog 7 #[.int .i64 (n : Int)] w fun e w' => ∃ b, e = .returned (.pointer (some ⟨b, 0, none⟩)) ∧ IsDsk w' b (newDsk n) (grow (fun _ => False) w w') ∧ Kp (fun _ => False) w w' := by
  obtain ⟨i0, hi0, hz0, hz1, hz2⟩ := info_parts bytesCell
  have hmk := run_make (P := Try.prog) w 62 73 i0 _ Try.underlying62 hi0 hz0 .i64 .i64 (n : Int) (n : Int) (by omega) (by omega) (by rw [hz2]; omega) (by omega)
  rw [hz1, Int.toNat_natCast, madeCells_flat] at hmk
  have a1 : ¬ (n : Int) < 1 := by omega
  have a2 : ¬ (65536 : Int) < (n : Int) := by omega
  have hmm := @run_makeMap Try.prog
  have HMK := Lib.hid hmk
  clear hmk hi0 hz0 hz1 hz2
  go_enter Try.func7, Try.ntmps7
  go_wp2_with (first
    | ((with_reducible show wpList _ _ _ (Oper.mk _ (Op.makeSlice _ _ _) _ _ _ _ :: _) _ _); refine wpList_run _ _ rfl (by unfold execOp; simp only [Act.eval]; exact by simpa [Sem.run_bind] using congrArg (fun r => r.andThen fun a w' => Result.ok (Next.value a) w') HMK.out) ?_))
  go_ret
  have hn : (List.replicate n ((zsec, false) : Sec × Bool)).length = n := by simp
  refine ⟨w.heap.size + 2, rfl, ⟨w.heap.size, w.heap.size + 1, [], 0, ?_⟩, (((Kp.refl _ w).alloc _).alloc _).alloc _⟩
  have e0 := heap_alloc_new w (.cells (flatC (List.replicate n (zsec, false))).toArray 73)
  have e1 := heap_alloc_new (w.alloc (.cells (flatC (List.replicate n (zsec, false))).toArray 73)) (.map #[] 0)
  have e2 := fun o => heap_alloc_new ((w.alloc (.cells (flatC (List.replicate n (zsec, false))).toArray 73)).alloc (.map #[] 0)) o
  simp only [World.size_alloc] at e1 e2
  refine { hb := ?_, hc := ?_, hm := ?_, ents := rfl, ok := by simp, apart := List.Pairwise.nil, keys := by simp, borns := by simp, young := by simp, fb := ?_, fc := ?_, fm := ?_, lt := fun k hk => hk.elim (fun e => e.elim) (fun e => e.2), alo := by simp [newDsk], ahi := by simp [newDsk], pos := by rw [newDsk, hn]; omega, len := by rw [newDsk, hn]; omega }
  · rw [e2]; simp [newDsk]
  · rw [Below.heap_alloc _ _ _ (by simp; omega), Below.heap_alloc _ _ _ (by simp), e0]; rfl
  · rw [Below.heap_alloc _ _ _ (by simp), e1]; rfl
  · exact .inr (by simp <;> omega)
  · exact .inr (by simp <;> omega)
  · exact .inr (by simp <;> omega)

theorem rotCell (w : World) : (Instr.build 73 #[(1, .bool true)]).run Try.prog w = .ok (av (ccells (zsec, true))) w := by kernel_rfl

def Dsk.rot (D : Dsk) (i : Int) : Dsk := if D.chk i ≠ 0 then D else { D with cells := D.cells.set i.toNat (zsec, true) }

/-- A cell of the disk is written. -/
theorem DskAt.putCell {w : World} {b cb mb : Nat} {l : List Ent} {clock : Nat} {D : Dsk} {F : Nat → Prop} (h : DskAt w b cb mb l clock D F) (k : Nat) (hk : k < D.cells.length) (c : Sec × Bool) :
    DskAt (w.setCells cb (k * 65) (ccells c)) b cb mb l clock { D with cells := D.cells.set k c } F where
  hb := by rw [heap_setCells_ne h.b_ne_c, h.hb]; simp
  hc := by
    rw [heap_setCells_same (ccells c) (k * 65) w (flatC D.cells) h.hc (by rw [length_flatC, length_ccells]; omega)]
    rw [flatC, flat_over ccells 65 length_ccells D.cells k c hk]
    rfl
  hm := by rw [heap_setCells_ne h.c_ne_m.symm]; exact h.hm
  ents := h.ents
  ok := fun x hx => by
    have := (h.ok x hx).step (F' := F) (w' := w.setCells cb (k * 65) (ccells c)) (fun _ h => h) (fun g hg => heap_setCells_ne (row_ne (h.ok x hx).own (by have := (h.ok x hx).ne; cases hs : x.secs <;> simp_all) h.hc (by intro C; simp) g hg) _ _ _)
    simpa using this
  apart := h.apart
  keys := h.keys
  borns := h.borns
  young := h.young
  fb := h.fb
  fc := h.fc
  fm := h.fm
  lt := fun j hj => by rw [size_setCells]; exact h.lt j hj
  alo := h.alo
  ahi := h.ahi
  pos := by simpa using h.pos
  len := by simpa using h.len

set_option maxRecDepth 100000 in
set_option maxHeartbeats 1000000 in
theorem rot_c (w : World) (b : Nat) (D : Dsk) (F : Nat → Prop) (h : IsDsk w b D F) (i : Int) :
    Calls Try.prog 25 #[.pointer (some ⟨b, 0, none⟩), .int .i64 i] w fun e w' => e = .returned (.int .i64 (D.chk i)) ∧ IsDsk w' b (D.rot i) F ∧ Kp F w w' := by
  by_cases hk : D.chk i = 0
  · obtain ⟨_, h0, hn⟩ := chk0 hk
    obtain ⟨k, rfl⟩ := Int.eq_ofNat_of_zero_le h0
    have hkn : k < D.cells.length := by omega
    have hR : D.rot (k : Int) = { D with cells := D.cells.set k (zsec, true) } := by simp [Dsk.rot, hk]
    rw [hR, hk]
    have HK := Lib.hid hk
    obtain ⟨cb, mb, l, clock, hD⟩ := h
    have hc0 := (dsk_cells hD).1
    have hth : w.there cb (k * 65) 65 := there_of hD.hc _ _ (by rw [length_flatC]; omega)
    have HD := Lib.hid hD
    have HT := Lib.hid hth
    clear hD hk hth hR
    go_enter Try.func25, Try.ntmps25
    go_wp2_with (first
      | (go_at_call 34; refine (check_c _ b D F ⟨cb, mb, l, clock, HD.out⟩ _).mono ?_; rintro e w' ⟨rfl, rfl⟩; rw [HK.out])
      | ((with_reducible show wpList _ _ _ (Oper.mk _ (Op.build _ _) _ _ _ _ :: _) _ _); refine wpList_buildA (av (ccells (zsec, true))) 73 rfl _ rfl #[(1, .bool true)] (by simp [Act.eval]) (rotCell _) ?_)
      | ((with_reducible show wpList _ _ _ (Oper.mk _ (Op.store _ _ _) _ _ _ _ :: _) _ _); refine wpList_storeA 73 rfl _ _ rfl cb (k * 65) (ccells (zsec, true)) (by simp [Act.eval]) (by simp [Act.eval]) (by simpa using HT.out) (lenCell _) (ccells_one _) ?_))
    go_ret
    exact ⟨rfl, ⟨cb, mb, l, clock, HD.out.putCell k hkn _⟩, Kp.setCells (fun _ => HD.out.fc) _ _ _ (Kp.refl _ _)⟩
  · have hR : D.rot i = D := by simp [Dsk.rot, hk]
    rw [hR]
    generalize hc : D.chk i = c at *
    have hb : (c == 0) = false := by simpa using hk
    have HC := Lib.hid hc
    clear hc hR
    go_enter Try.func25, Try.ntmps25
    go_wp2_with (first
      | (go_at_call 34; refine (check_c _ b D F h i).mono ?_; rintro e w' ⟨rfl, rfl⟩; rw [HC.out]))
    go_ret
    exact ⟨rfl, h, Kp.refl _ _⟩

end Go.Proofs.Ytopeelclhpjngaa
