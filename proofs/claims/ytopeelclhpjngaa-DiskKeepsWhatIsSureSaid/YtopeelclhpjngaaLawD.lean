/- The examples of the chapter: sanity returns true. -/
import Derived.Test.YtopeelclhpjngaaLawC
attribute [local go_sem ↓] Go.wp_at_zero Go.wp_at_succ
namespace Go.Proofs.Ytopeelclhpjngaa
set_option linter.unusedSimpArgs false
set_option linter.unusedVariables false
open Go Go.ChangeMaps Go.RowKit Go.Proofs

section
variable {ops : Array Oper} {rest : List Oper} {op : Oper} {a : Act} {w : World} {Q : Exit → Act → World → Prop}
theorem neB_same {T' : TypeId} (hgd : op.guard = none) (x y : Operand) (ho : op.op = .binOp .neq 33 x y T') (s : Sec) (hx : a.eval x = bv s) (hy : a.eval y = bv s)
    (h : wpList Try.prog ops Q rest (a.put op.dst (.bool false)) w) : wpList Try.prog ops Q (op :: rest) a w :=
  wpList_neB Try.underlying33 Try.underlying5 (by kernel_rfl) (by kernel_rfl) hgd x y ho s s hx hy (by simpa using h)
theorem eqB_same {T' : TypeId} (hgd : op.guard = none) (x y : Operand) (ho : op.op = .binOp .eql 33 x y T') (s : Sec) (hx : a.eval x = bv s) (hy : a.eval y = bv s)
    (h : wpList Try.prog ops Q rest (a.put op.dst (.bool true)) w) : wpList Try.prog ops Q (op :: rest) a w :=
  wpList_eqB Try.underlying33 Try.underlying5 (by kernel_rfl) (by kernel_rfl) hgd x y ho s s hx hy (by simpa using h)
end
theorem Row.kept {w w' : World} {v : Value} {xs : List Int} (h : Row w v xs) (hk : Kp (fun _ => False) w w') : Row w' v xs := by
  obtain ⟨p, c, h1, h2⟩ := h
  refine ⟨p, c, h1, fun j x hx => ?_⟩
  obtain ⟨g, o, hp, hc⟩ := h2 j x hx
  refine ⟨g, o, hp, ?_⟩
  have hb := hk.block g (by simpa using World.block_lt_of_cell? _ _ hc) (fun h => h)
  rw [← hc]
  simp only [World.cell?, hb]
theorem row_new (w : World) (x : Int) : Row (w.alloc (.cells #[.int .i64 x] 3)) (.slice (some ⟨w.heap.size, 0, none⟩) 1 1) [x] := by
  refine ⟨_, 1, rfl, fun j y hy => ⟨_, 0, rfl, ?_⟩⟩
  rw [cell_of (heap_alloc_new w _)]
  cases j with
  | zero => simp at hy; simp [hy]
  | succ j => simp at hy
theorem same_two (w : World) (p : Option Addr) (c : Nat) (h : Row w (.slice p 1 c) [2]) : Calls Try.prog 26 #[.slice p 1 c, .slice (some ⟨w.heap.size, 0, none⟩) 1 1] (w.alloc (.cells #[.int .i64 2] 3))
    fun e w' => e = .returned (.bool true) ∧ Kp (fun _ => False) w w' := by
  refine (same_c _ _ _ [2] [2] (h.kept ((Kp.refl _ _).alloc _)) (row_new w 2) (by simp)).mono ?_
  rintro e w' ⟨rfl, hk⟩
  exact ⟨by simp, ((Kp.refl _ w).alloc _).trans hk (fun _ _ h => h)⟩
theorem fill_cons (place : Nat → Option (Nat × Nat)) (C cs : List Value) (i off : Nat) (rest : List (Nat × Value)) (hp : place i = some (off, cs.length)) (h : off + cs.length ≤ C.length) : Instr.fill place C.toArray ((i, av cs) :: rest) = Instr.fill place (over C off cs).toArray rest := by
  have hf := foldl_over cs 0 off C (by omega)
  simp only [Nat.add_zero] at hf
  simp only [Instr.fill, hp, av_cells]
  simp [h, ← hf, Nat.not_lt.2 h]
theorem fill_secs (L : List Sec) (s : Sec) (i : Nat) (rest : List (Nat × Value)) (hi : i < L.length) : Instr.fill (fun i => some (i * 64, 64)) (flatS L).toArray ((i, bv s) :: rest) = Instr.fill (fun i => some (i * 64, 64)) (flatS (L.set i s)).toArray rest := by
  rw [bv_av, fill_cons _ _ _ i (i * 64) rest (by rw [length_bcells]) (by rw [length_flatS, length_bcells]; omega)]
  rw [flatS, flat_over bcells 64 length_bcells L i s hi]
  rfl
theorem info_sec : (Try.prog.info? 33).map (fun i => (i.zero, i.size, i.bytes)) = some (some (av (bcells zsec)), 64, 64) := by kernel_rfl
theorem run_secs5 (s0 s1 s2 s3 s4 : Sec) (w : World) : (Instr.buildSlice 43 5 #[(0, bv s0), (1, bv s1), (2, bv s2), (3, bv s3), (4, bv s4)]).run Try.prog w = .ok (.slice (some ⟨w.heap.size, 0, none⟩) 5 5) (w.alloc (.cells (flatS [s0, s1, s2, s3, s4]).toArray 33)) := by
  obtain ⟨i, hi, h1, h2, h3⟩ := info_parts info_sec
  have hl : ((Array.range (5 * 64)).map (fun x => ((bcells zsec).toArray)[x % (bcells zsec).length]!)) = (flatS (List.replicate 5 zsec)).toArray := by
    apply Array.toList_inj.1
    rw [Array.toList_map, Array.toList_range]
    have := range_cells (bcells zsec) (by simp) 5
    rw [length_bcells] at this
    rw [length_bcells, this]
    simp [flatS, List.replicate]
  simp only [Instr.buildSlice, Sem.run_bind, run_underlying Try.underlying43, Result.andThen_ok, sizeOf, typeInfo, run_program, hi, Sem.run_pure, h2]
  rw [if_neg (by omega)]
  simp only [Sem.run_pure, Result.andThen_ok, show ¬ (5 * 64 = 0) by omega, if_false, zeroValue, typeInfo, Sem.run_bind, run_program, hi, h1, av_cells]
  simp only [List.size_toArray]
  rw [hl, fill_secs _ _ _ _ (by simp), fill_secs _ _ _ _ (by simp), fill_secs _ _ _ _ (by simp), fill_secs _ _ _ _ (by simp), fill_secs _ _ _ _ (by simp)]
  simp [Instr.fill, newRow, List.replicate]
theorem torn_same : over (bcells sB) 32 ((bcells sA).take 32) = bcells (tornS sB sA) := by
  rw [bcells_torn, sA, bcells_filled]
  simp
theorem run_secs_exec (o : Oper) (a : Act) (w : World) (x0 x1 x2 x3 x4 : Operand) (s0 s1 s2 s3 s4 : Sec) (ho : o.op = .buildSlice 43 5 #[(0, x0), (1, x1), (2, x2), (3, x3), (4, x4)]) (h0 : a.eval x0 = bv s0) (h1 : a.eval x1 = bv s1) (h2 : a.eval x2 = bv s2) (h3 : a.eval x3 = bv s3) (h4 : a.eval x4 = bv s4) :
    (execOp a.eval o).run Try.prog w = .ok (.value (.slice (some ⟨w.heap.size, 0, none⟩) 5 5)) (w.alloc (.cells (flatS [s0, s1, s2, s3, s4]).toArray 33)) := by
  unfold execOp
  simp only [ho, List.map_toArray, List.map_cons, List.map_nil, h0, h1, h2, h3, h4, Sem.run_bind, run_secs5, Result.andThen_ok, Sem.run_pure]
abbrev flatO : Obj := .cells (flatS [zsec, sA, sB, zsec, tornS sB sA]).toArray 33 (0, 0)
theorem ints_new (w : World) (x : Int) : Ints (w.alloc (.cells #[.int .i64 x] 3)) (.slice (some ⟨w.heap.size, 0, none⟩) 1 1) [x] :=
  .inr ⟨by simp, w.heap.size, 0, 1, rfl, by
    have := rangeAt_of (heap_alloc_new w (.cells #[.int .i64 x] 3)) 0 [.int .i64 x] (by simp)
    exact this⟩
theorem wants_sec (n : Nat) (hn : n < 5) (s : Sec) (e : Int) (h : wants.getD n (zsec, 0) = (s, e)) : ∃ hl : n < [zsec, sA, sB, zsec, tornS sB sA].length, [zsec, sA, sB, zsec, tornS sB sA][n] = s := by
  have : n = 0 ∨ n = 1 ∨ n = 2 ∨ n = 3 ∨ n = 4 := by omega
  rcases this with rfl | rfl | rfl | rfl | rfl <;> (simp [wants] at h; exact ⟨by simp, h.1⟩)
theorem wants_err (n : Nat) (hn : n < 5) (s : Sec) (e : Int) (h : wants.getD n (zsec, 0) = (s, e)) : (e == 221) = ((n : Int) == 3) := by
  have : n = 0 ∨ n = 1 ∨ n = 2 ∨ n = 3 ∨ n = 4 := by omega
  rcases this with rfl | rfl | rfl | rfl | rfl <;> (simp [wants] at h; obtain ⟨_, rfl⟩ := h; decide)
theorem d2_small : ∀ p ∈ d2.opn, p.2.length < 1073741824 := by simp [d2]
theorem crash_small (n : Nat) : ∀ p ∈ (d2.crash [(n : Int)]).opn, p.2.length < 1048576 := by simp [Dsk.crash, newDsk]
theorem San.turn2 {wz w : World} {b x t2 : Nat} {D : Dsk} (h : San wz w b D [(x, oS sA), (t2 + 1, oS sB), (t2, oS sA)]) :
    w.cell? ⟨t2 + 1, 1, none⟩ = some (.int .u8 2) ∧ w.frozen? ⟨t2 + 1, 1, none⟩ = false ∧ San wz (w.setCell ⟨t2 + 1, 1, none⟩ (.int .u8 0)) b D [(x, oS sA), (t2 + 1, oS sB1), (t2, oS sA)] := by
  have hv := h.var (t2 + 1, oS sB) (.tail _ (.head _))
  refine ⟨?_, free_of hv _, ?_⟩
  · rw [cell_of hv, sB, bcells_filled]
    rfl
  · have h1 := h.sub (us := [(t2 + 1, oS sB), (x, oS sA), (t2, oS sA)]) (by intro p hp; simp only [List.mem_cons, List.not_mem_nil, or_false] at hp ⊢; rcases hp with h | h | h <;> simp [h])
    by_cases hx : x = t2 + 1
    · exfalso
      have h2 := h.var (x, oS sA) (.head _)
      simp only [hx] at h2 hv
      rw [h2] at hv
      simp [oS, sA, sB, bcells_filled] at hv
    · have h3 := h1.set (w' := w.setCell ⟨t2 + 1, 1, none⟩ (.int .u8 0)) (o' := oS sB1) (Kp.setCell (F := fun k => k = t2 + 1) (p := ⟨t2 + 1, 1, none⟩) (Kp.refl _ _) (fun _ => rfl) _) (by
          have := heap_setCell_same hv (.int .u8 0) (o := 1)
          rw [this, oS, sB1, bcells_set, List.setIfInBounds_toArray]) (by
          intro p hp
          simp only [List.mem_cons, List.not_mem_nil, or_false] at hp
          rcases hp with rfl | rfl <;> simp <;> omega)
      exact h3.sub (by intro p hp; simp only [List.mem_cons, List.not_mem_nil, or_false] at hp ⊢; rcases hp with h | h | h <;> simp [h])
theorem small5 : ∀ p ∈ d5.opn, p.2.length < 1073741824 := by simp [d5]
theorem small7 : ∀ p ∈ d7.opn, p.2.length < 1073741824 := by simp [d7]
abbrev zO : Obj := .cells (bcells zsec).toArray 33
theorem th_first (w : World) (s : Sec) : ((w.alloc (.cells (bcells zsec).toArray 33)).alloc (.cells (bcells zsec).toArray 33)).there w.heap.size 0 (bcells s).length :=
  World.there_alloc (there_of (heap_alloc_new w _) 0 _ (by simp)) _
theorem th_second (w : World) (t s : Sec) : (((w.alloc (.cells (bcells zsec).toArray 33)).alloc (.cells (bcells zsec).toArray 33)).setCells w.heap.size 0 (bcells t)).there (w.heap.size + 1) 0 (bcells s).length := by
  have h1 := there_of (heap_alloc_new (w.alloc (.cells (bcells zsec).toArray 33)) (.cells (bcells zsec).toArray 33)) 0 64 (by simp)
  rw [World.size_alloc] at h1
  exact World.there_setCells (by rw [length_bcells]; exact h1) _ _ _
theorem th_fresh (w : World) (s : Sec) : (w.alloc (.cells (bcells zsec).toArray 33)).there w.heap.size 0 (bcells s).length := there_of (heap_alloc_new w _) 0 _ (by simp)

theorem new_two (w w2 : World) (hK : Kp (fun _ => False) w w2) (s t : Sec) : Calls Try.prog 7 #[.int .i64 4] ((((w2.alloc (.cells (bcells zsec).toArray 33)).alloc (.cells (bcells zsec).toArray 33)).setCells w2.heap.size 0 (bcells s)).setCells (w2.heap.size + 1) 0 (bcells t))
    fun e w' => ∃ b, e = .returned (.pointer (some ⟨b, 0, none⟩)) ∧ San w w' b (newDsk 4) [(w2.heap.size + 1, oS t), (w2.heap.size, oS s)] := by
  have hz := hK.size
  refine San.new (wz := w) (Kp.setCells (fun h => absurd h (by omega)) _ _ _ (Kp.setCells (fun h => absurd h (by omega)) _ _ _ ((hK.alloc _).alloc _))) _ ?_ 4 (by omega) (by omega)
  have h1 := heap_alloc_new w2 (.cells (bcells zsec).toArray 33)
  have h2 := heap_alloc_new (w2.alloc (.cells (bcells zsec).toArray 33)) (.cells (bcells zsec).toArray 33)
  rw [World.size_alloc] at h2
  have h1' := (Below.heap_alloc (w2.alloc (.cells (bcells zsec).toArray 33)) (.cells (bcells zsec).toArray 33) w2.heap.size (by simp)).trans h1
  intro p hp
  simp only [List.mem_cons, List.not_mem_nil, or_false] at hp
  rcases hp with rfl | rfl
  · exact ⟨heap_fill ((heap_setCells_ne (by omega) _ _ _).trans h2) (by simp), by simp; omega⟩
  · exact ⟨(heap_setCells_ne (by omega) _ _ _).trans (heap_fill h1' (by simp)), hz⟩

set_option maxRecDepth 100000 in
set_option maxHeartbeats 4000000 in
theorem sanity_c (w : World) : Calls Try.prog 8 #[] w fun e w' => e = .returned (.bool true) ∧ Kp (fun _ => False) w w' := by
  have hsm0 : ∀ p ∈ (newDsk 4).opn, p.2.length < 1073741824 := by simp [newDsk]
  have hsm1 : ∀ p ∈ d1.opn, p.2.length < 1048576 := by simp [d1]
  have hsm1' : ∀ p ∈ d1.opn, p.2.length < 1073741824 := by simp [d1]
  have HS := Lib.hid (And.intro hsm0 (And.intro hsm1 hsm1'))
  clear hsm0 hsm1 hsm1'
  go_enter Try.func8, Try.ntmps8
  go_wp2_with (first
    | ((with_reducible show wpList _ _ _ (Oper.mk _ _ _ _ _ (some _) :: _) _ _); refine wpList_guarded (by rfl) ?_)
    | (go_at_call 23; (with_reducible show Calls _ _ _ w _); refine (filled_c w 1).mono ?_; rintro e w1 ⟨rfl, hK1⟩)
    | (go_at_call 23; (with_reducible show Calls _ _ _ w1 _); refine (filled_c w1 2).mono ?_; rintro e w2 ⟨rfl, hK2⟩; have H2 := Lib.hid (hK1.trans hK2 (fun _ _ h => h)); clear hK1 hK2)
    | ((with_reducible show wpList _ _ _ (Oper.mk _ (Op.alloc 33) _ _ _ _ :: _) _ _); refine wpList_allocA 33 rfl rfl (bcells zsec) zeroSec ?_; try simp only [World.size_alloc])
    | ((with_reducible show wpList _ _ _ (Oper.mk _ (Op.store 33 (Operand.tmp 1) _) _ _ _ _ :: _) _ _); refine wpList_storeA 33 rfl _ _ rfl w2.heap.size 0 (bcells sA) (by rfl) (by rfl) (th_first w2 sA) (lenSec _) (bcells_one _) ?_)
    | ((with_reducible show wpList _ _ _ (Oper.mk _ (Op.store 33 (Operand.tmp 2) _) _ _ _ _ :: _) _ _); refine wpList_storeA 33 rfl _ _ rfl (w2.heap.size + 1) 0 (bcells sB) (by rfl) (by rfl) (th_second w2 sA sB) (lenSec _) (bcells_one _) ?_)
    | (go_at_call 7; refine (new_two w w2 H2.out sA sB).mono ?_; rintro e w4 ⟨b, rfl, h4⟩; have H4 := Lib.hid h4; clear h4)
    | ((with_reducible show wpList _ _ _ (Oper.mk _ (Op.load 33 (Operand.tmp 1)) _ _ _ _ :: _) _ _); refine wpList_loadA 33 _ rfl _ rfl w2.heap.size 0 (by rfl) (bcells sA) (H4.out.rd (.tail _ (.head _))) Try.underlying33 rfl (lenSec _) ?_)
    | (go_at_call 22; (with_reducible show Calls _ _ _ w4 _); refine (H4.out.write 2 sA HS.out.1).mono ?_; rintro e w5 ⟨rfl, h5⟩; rw [sA, e1.1] at h5; have H5 := Lib.hid h5; clear h5; rw [e1.2])
    | (go_at_call 11; (with_reducible show Calls _ _ _ w5 _); refine (H5.out.read 2).mono ?_; rintro e w6 ⟨rfl, h6⟩; have H6 := Lib.hid (H5.out.quiet h6); clear h6; simp only [r1])
    | ((with_reducible show wpList _ _ _ (Oper.mk _ (Op.store 33 (Operand.tmp 4) _) _ _ _ _ :: _) _ _); refine wpList_storeA 33 rfl _ _ rfl w6.heap.size 0 (bcells sA) (by rfl) (by rfl) (th_fresh w6 sA) (lenSec _) (bcells_one _) ?_; have H7 := Lib.hid (H6.out.fresh sA); generalize hw7 : (w6.alloc (.cells (bcells zsec).toArray 33)).setCells w6.heap.size 0 (bcells sA) = w7 at *; clear hw7)
    | ((with_reducible show wpList _ _ _ (Oper.mk _ (Op.load 33 (Operand.tmp 4)) _ _ _ _ :: _) _ _); refine wpList_loadA 33 _ rfl _ rfl w6.heap.size 0 (by rfl) (bcells sA) (H7.out.rd (.head _)) Try.underlying33 rfl (lenSec _) ?_)
    | ((with_reducible show wpList _ _ _ (Oper.mk _ (Op.load 33 (Operand.tmp 1)) _ _ _ _ :: _) _ _); refine wpList_loadA 33 _ rfl _ rfl w2.heap.size 0 (by rfl) (bcells sA) (H7.out.rd (.tail _ (.tail _ (.head _)))) Try.underlying33 rfl (lenSec _) ?_)
    | ((with_reducible show wpList _ _ _ (Oper.mk _ (Op.binOp BinOp.neq 33 _ _ _) _ _ _ _ :: _) _ _); refine neB_same rfl _ _ rfl sA (by rfl) (by rfl) ?_)
    | (go_at_call 18; (with_reducible show Calls _ _ _ w7 _); refine (H7.out.open HS.out.2.1).mono ?_; rintro e w8 ⟨po, co, rfl, hrow8, h8⟩; have H8 := Lib.hid (H7.out.quiet h8); rw [o1] at hrow8; have HR8 : Hid (Row w8 (.slice po 1 co) [2]) := Lib.hid hrow8; clear h8 hrow8; rw [o1])
    | (go_at_call 26; refine (same_two w8 po co HR8.out).mono ?_; rintro e w9 ⟨rfl, h9⟩; have H9 := Lib.hid (H8.out.quiet h9); clear h9)
    | ((with_reducible show wpList _ _ _ (Oper.mk _ (Op.load 33 (Operand.tmp 2)) _ _ _ _ :: _) _ _); (with_reducible show wpList _ _ _ _ _ w9); refine wpList_loadA 33 _ rfl _ rfl (w2.heap.size + 1) 0 (by rfl) (bcells sB) (H9.out.rd (.tail _ (.head _))) Try.underlying33 rfl (lenSec _) ?_)
    | (go_at_call 22; (with_reducible show Calls _ _ _ w9 _); refine (H9.out.write 2 sB HS.out.2.2).mono ?_; rintro e w10 ⟨rfl, h10⟩; rw [sB, e2.1] at h10; have H10 := Lib.hid h10; clear h10; rw [e2.2])
    | ((with_reducible show wpList _ _ _ (Oper.mk _ (Op.load 33 (Operand.tmp 2)) _ _ _ _ :: _) _ _); (with_reducible show wpList _ _ _ _ _ w10); refine wpList_loadA 33 _ rfl _ rfl (w2.heap.size + 1) 0 (by rfl) (bcells sB) (H10.out.rd (.tail _ (.head _))) Try.underlying33 rfl (lenSec _) ?_)
    | ((with_reducible show wpList _ _ _ (Oper.mk _ (Op.store 33 (Operand.tmp 6) _) _ _ _ _ :: _) _ _); refine wpList_storeA 33 rfl _ _ rfl w10.heap.size 0 (bcells sB) (by rfl) (by rfl) (th_fresh w10 sB) (lenSec _) (bcells_one _) ?_; have H11 := Lib.hid (H10.out.fresh sB); generalize hw11 : (w10.alloc (.cells (bcells zsec).toArray 33)).setCells w10.heap.size 0 (bcells sB) = w11 at *; clear hw11)
    )
  refine wp_region_still_tail 2 (by kernel_rfl) (by kernel_rfl) ?_
  simp only [List.take_succ_cons, List.take_zero, List.drop_succ_cons, List.drop_zero]
  change wpStill _ _ w11.drew _ _ _
  repeat still_step
  refine wpStill_nil ?_
  change wpList _ _ _ _ _ w11.drew
  have h12 := H11.out.quiet ((Kp.refl _ w11).drew)
  have hcA : ∀ j v, ((bcells sA).take 32)[j]? = some v → w11.drew.cell? (Addr.add ⟨w2.heap.size, 0, none⟩ j) = some v := by
    intro j v hv
    rw [Addr.add_mid]
    have hj : (bcells sA)[j]? = some v := by
      rw [List.getElem?_take] at hv
      split at hv
      · exact hv
      · cases hv
    have := h12.rd (.tail _ (.tail _ (.tail _ (.head _)))) j v hj
    simpa using this
  have hth : w11.drew.there w10.heap.size 32 ((bcells sA).take 32).length := there_of (h12.var (w10.heap.size, oS sB) (.head _)) 32 _ (by simp)
  refine wpList_copyA rfl _ _ _ _ rfl 5 Try.underlying67 1 (by kernel_rfl) w10.heap.size 32 32 32 ⟨w2.heap.size, 0, none⟩ 32 64 (by rfl) (by rfl) ((bcells sA).take 32) 32 (by rfl) (by simp) hcA hth (fun v hv => bcells_one sA v (List.mem_of_mem_take hv)) ?_
  obtain ⟨w12, hw12⟩ : ∃ w12, w12 = w11.drew.setCells w10.heap.size 32 ((bcells sA).take 32) := ⟨_, rfl⟩
  rw [← hw12]
  have H12 : Hid (San w w12 b d2 [(w10.heap.size, oS (tornS sB sA)), (w6.heap.size, oS sA), (w2.heap.size + 1, oS sB), (w2.heap.size, oS sA)]) := by
    refine Lib.hid ?_
    rw [hw12]
    refine h12.set (Kp.setCells (F := fun k => k = _) (fun _ => rfl) _ _ _ (Kp.refl _ _)) ?_ (fun p hp e => ?_)
    · have := heap_setCells_same ((bcells sA).take 32) 32 w11.drew (bcells sB) (h12.var (w10.heap.size, oS sB) (.head _)) (by simp)
      rw [torn_same] at this
      exact this
    · have := H10.out.lt p hp
      omega
  clear h12 hcA hth hw12
  go_wp2_with (first
    | ((with_reducible show wpList _ _ _ (Oper.mk _ (Op.build 33 _) _ _ _ _ :: _) _ _); refine wpList_buildA (av (bcells zsec)) 33 rfl _ rfl _ rfl (build0Sec _) ?_)
    | ((with_reducible show wpList _ _ _ (Oper.mk _ (Op.load 33 (Operand.tmp 1)) _ _ _ _ :: _) _ _); refine wpList_loadA 33 _ rfl _ rfl w2.heap.size 0 (by rfl) (bcells sA) (H12.out.rd (.tail _ (.tail _ (.tail _ (.head _))))) Try.underlying33 rfl (lenSec _) ?_)
    | ((with_reducible show wpList _ _ _ (Oper.mk _ (Op.load 33 (Operand.tmp 2)) _ _ _ _ :: _) _ _); refine wpList_loadA 33 _ rfl _ rfl (w2.heap.size + 1) 0 (by rfl) (bcells sB) (H12.out.rd (.tail _ (.tail _ (.head _)))) Try.underlying33 rfl (lenSec _) ?_)
    | ((with_reducible show wpList _ _ _ (Oper.mk _ (Op.load 33 (Operand.tmp 6)) _ _ _ _ :: _) _ _); refine wpList_loadA 33 _ rfl _ rfl w10.heap.size 0 (by rfl) (bcells (tornS sB sA)) (H12.out.rd (.head _)) Try.underlying33 rfl (lenSec _) ?_)
    | ((with_reducible show wpList _ _ _ (Oper.mk _ (Op.buildSlice _ _ _) _ _ _ _ :: _) _ _); refine wpList_run (.slice (some ⟨w12.heap.size, 0, none⟩) 5 5) (w12.alloc (.cells (flatS [zsec, sA, sB, zsec, tornS sB sA]).toArray 33)) rfl (run_secs_exec _ _ _ _ _ _ _ _ zsec sA sB zsec (tornS sB sA) rfl (by rfl) (by rfl) (by rfl) (by rfl) (by rfl)) ?_))
  have H13 := Lib.hid (H12.out.alloc (flatS [zsec, sA, sB, zsec, tornS sB sA]).toArray 33)
  generalize w12.alloc (.cells (flatS [zsec, sA, sB, zsec, tornS sB sA]).toArray 33) = w13 at *
  go_loopw [64] (fun i wr => ∃ n : Nat, i = .int .i64 n ∧ n ≤ 5 ∧ San w wr b d2 [(w12.heap.size, flatO), (w10.heap.size, oS (tornS sB sA)), (w6.heap.size, oS sA), (w2.heap.size + 1, oS sB), (w2.heap.size, oS sA)]) (fun i _ => 5 - (intOf i).toNat)
  case atStart => exact ⟨0, rfl, by omega, H13.out⟩
  case round =>
    obtain ⟨n, rfl, hn, hS⟩ := hrel
    by_cases hlt : n < 5
    · obtain ⟨s, e, hse⟩ : ∃ s e, wants.getD n (zsec, 0) = (s, e) := ⟨_, _, rfl⟩
      obtain ⟨hl, hL⟩ := wants_sec n hlt s e hse
      have hrange : wr.rangeAt w12.heap.size (n * 64) (bcells s) := rangeAt_of (hS.var (w12.heap.size, flatO) (.head _)) _ _ (by rw [length_bcells, ← hL]; exact flat_at bcells 64 length_bcells _ n hl)
      obtain ⟨hrd, hop, hcl⟩ := c2 n hlt
      rw [hse] at hrd
      obtain ⟨q, hq1, hq2⟩ : ∃ q : Bool, (e == 221) = q ∧ ((n : Int) == 3) = q := ⟨_, wants_err n hlt s e hse, rfl⟩
      have hn0 : (0 : Int) ≤ (n : Int) := by omega
      have hn5 : (n : Int) < 5 := by omega
      have hrange' : ∀ o, (wr.alloc o).rangeAt w12.heap.size (n * 64) (bcells s) := fun o => World.rangeAt_alloc hrange o
      have HX := Lib.hid (And.intro hS (And.intro hrange (And.intro hrd (And.intro hop (And.intro hcl hlt)))))
      have HWN : Hid (wrap64 ((n : Int) + 1) = (n : Int) + 1) := Lib.hid (IntWalk.wrap64_in _ (by omega))
      clear hS hrange hrange' hrd hop hcl hlt hn hl hL hse
      go_wp2_with (first
        | ((with_reducible show wpList _ _ _ (Oper.mk _ _ _ _ _ (some _) :: _) _ _); refine wpList_guarded (by rfl) ?_)
        | ((with_reducible show wpList _ _ _ (Oper.mk _ (Op.load 33 (Operand.tmp 67)) _ _ _ _ :: _) _ _); refine wpList_loadA 33 _ rfl _ rfl w12.heap.size (n * 64) (by rfl) (bcells s) HX.out.2.1 Try.underlying33 rfl (lenSec _) ?_)
        | ((with_reducible show wpList _ _ _ (Oper.mk _ (Op.alloc 33) _ _ _ _ :: _) _ _); refine wpList_allocA 33 rfl rfl (bcells zsec) zeroSec ?_)
        | ((with_reducible show wpList _ _ _ (Oper.mk _ (Op.store 33 (Operand.tmp 8) _) _ _ _ _ :: _) _ _); refine wpList_storeA 33 rfl _ _ rfl wr.heap.size 0 (bcells s) (by rfl) (by rfl) (th_fresh wr s) (lenSec _) (bcells_one _) ?_; have HA := Lib.hid (HX.out.1.fresh s); generalize hwa : (wr.alloc (.cells (bcells zsec).toArray 33)).setCells wr.heap.size 0 (bcells s) = wa at *; clear hwa)
        | (go_at_call 14; refine ((HA.out.alloc #[.int .i64 (n : Int)] 3).crash (.slice (some ⟨wa.heap.size, 0, none⟩) 1 1) [(n : Int)] (ints_new wa n) d2_small).mono ?_; rintro e w' ⟨b', rfl, hc, hk⟩; have HB := Lib.hid (And.intro ((HA.out.alloc #[.int .i64 (n : Int)] 3).quiet hk) hc); clear hc hk; generalize w' = wb at *)
        | (go_at_call 11; refine (HB.out.2.read 2).mono ?_; rintro e w' ⟨rfl, hk⟩; have HC := Lib.hid (And.intro (HB.out.1.quiet hk) (HB.out.2.quiet hk)); clear hk; generalize w' = wc at *; simp only [HX.out.2.2.1])
        | ((with_reducible show wpList _ _ _ (Oper.mk _ (Op.store 33 (Operand.tmp 10) _) _ _ _ _ :: _) _ _); refine wpList_storeA 33 rfl _ _ rfl wc.heap.size 0 (bcells s) (by rfl) (by rfl) (th_fresh wc s) (lenSec _) (bcells_one _) ?_; have HD := Lib.hid (And.intro (HC.out.1.fresh s) (HC.out.2.fresh s)); generalize hwd : (wc.alloc (.cells (bcells zsec).toArray 33)).setCells wc.heap.size 0 (bcells s) = wd at *; clear hwd)
        | ((with_reducible show wpList _ _ _ (Oper.mk _ (Op.load 33 (Operand.tmp 10)) _ _ _ _ :: _) _ _); refine wpList_loadA 33 _ rfl _ rfl wc.heap.size 0 (by rfl) (bcells s) (HD.out.1.rd (.head _)) Try.underlying33 rfl (lenSec _) ?_)
        | ((with_reducible show wpList _ _ _ (Oper.mk _ (Op.load 33 (Operand.tmp 8)) _ _ _ _ :: _) _ _); refine wpList_loadA 33 _ rfl _ rfl wr.heap.size 0 (by rfl) (bcells s) (HD.out.1.rd (.tail _ (.tail _ (.head _)))) Try.underlying33 rfl (lenSec _) ?_)
        | ((with_reducible show wpList _ _ _ (Oper.mk _ (Op.binOp BinOp.neq 33 _ _ _) _ _ _ _ :: _) _ _); refine neB_same rfl _ _ rfl s (by rfl) (by rfl) ?_)
        | (go_at_call 15; refine (HD.out.2.size).mono ?_; rintro e w' ⟨rfl, rfl⟩; simp only [HX.out.2.2.2.2.1])
        | (go_at_call 18; refine (HD.out.2.open (crash_small n)).mono ?_; rintro e w' ⟨po2, co2, rfl, -, hk⟩; have HE := Lib.hid (HD.out.1.quiet hk); clear hk; generalize w' = we at *; simp only [HX.out.2.2.2.1, List.length_nil]))
      go_roundw
      case rel => exact ⟨n + 1, by simp, by have := HX.out.2.2.2.2.2; omega, HE.out.sub (fun p hp => .tail _ (.tail _ (.tail _ hp)))⟩
      case measure => exact measure_next HX.out.2.2.2.2.2 _ _ rfl rfl
    · have hn5 : n = 5 := by omega
      subst hn5
      have H14 := Lib.hid (hS.sub (us := [(w6.heap.size, oS sA), (w2.heap.size + 1, oS sB), (w2.heap.size, oS sA)]) (fun p hp => .tail _ (.tail _ hp)))
      have HZ : Hid (∀ (s t : Sec), ∀ p ∈ [(w2.heap.size + 1, oS s), (w2.heap.size, oS t)], p.1 ≠ w6.heap.size) := Lib.hid (by
        intro s t p hp e
        have h1 := H6.out.lt (w2.heap.size + 1, oS sB) (.head _)
        simp only [List.mem_cons, List.not_mem_nil, or_false] at hp
        rcases hp with rfl | rfl <;> simp at e h1 <;> omega)
      clear hS hn hlt
      go_wp2_with (first
        | ((with_reducible show wpList _ _ _ (Oper.mk _ _ _ _ _ (some _) :: _) _ _); refine wpList_guarded (by rfl) ?_)
        | (go_at_call 21; (with_reducible show Calls _ _ _ wr _); refine (H14.out.sync).mono ?_; rintro e w15 ⟨rfl, h⟩; rw [e3.1] at h; have H15 := Lib.hid h; clear h; rw [e3.2])
        | (go_at_call 17; (with_reducible show Calls _ _ _ w15 _); refine (H15.out.steps).mono ?_; rintro e w' ⟨rfl, rfl⟩; rw [show d3.steps = 3 from rfl])
        | (go_at_call 24; (with_reducible show Calls _ _ _ w15 _); refine (H15.out.flip 2 9).mono ?_; rintro e w16 ⟨rfl, h⟩; rw [e4.1] at h; rw [e4.2]; have H16 := Lib.hid (San.turn2 h); clear h; have hcb := H16.out.1; have hfb := H16.out.2.1; have H17 := Lib.hid H16.out.2.2; clear H16)
        | (go_at_call 11; (with_reducible show Calls _ _ _ (World.setCell _ _ _) _); refine (H17.out.read 2).mono ?_; rintro e w18 ⟨rfl, h⟩; have H18 := Lib.hid (H17.out.quiet h); clear h; simp only [r4])
        | ((with_reducible show wpList _ _ _ (Oper.mk _ (Op.store 33 (Operand.tmp 4) _) _ _ _ _ :: _) _ _); (with_reducible show wpList _ _ _ _ _ w18); refine wpList_storeA 33 rfl _ _ rfl w6.heap.size 0 (bcells sB1) (by rfl) (by rfl) (H18.out.th (.head _) sB1) (lenSec _) (bcells_one _) ?_; have H19 := Lib.hid (H18.out.restore sB1 (HZ.out _ _)); generalize hw : w18.setCells w6.heap.size 0 (bcells sB1) = w19 at *; clear hw)
        | ((with_reducible show wpList _ _ _ (Oper.mk _ (Op.load 33 (Operand.tmp 4)) _ _ _ _ :: _) _ _); (with_reducible show wpList _ _ _ _ _ w19); refine wpList_loadA 33 _ rfl _ rfl w6.heap.size 0 (by rfl) (bcells sB1) (H19.out.rd (.head _)) Try.underlying33 rfl (lenSec _) ?_)
        | ((with_reducible show wpList _ _ _ (Oper.mk _ (Op.load 33 (Operand.tmp 2)) _ _ _ _ :: _) _ _); (with_reducible show wpList _ _ _ _ _ w19); refine wpList_loadA 33 _ rfl _ rfl (w2.heap.size + 1) 0 (by rfl) (bcells sB1) (H19.out.rd (.tail _ (.head _))) Try.underlying33 rfl (lenSec _) ?_)
        | ((with_reducible show wpList _ _ _ (Oper.mk _ (Op.binOp BinOp.eql 33 _ _ _) _ _ _ _ :: _) _ _); (with_reducible show wpList _ _ _ _ _ w19); refine eqB_same rfl _ _ rfl sB1 (by rfl) (by rfl) ?_)
        | (go_at_call 25; (with_reducible show Calls _ _ _ w19 _); refine (H19.out.rot 2).mono ?_; rintro e w20 ⟨rfl, h⟩; rw [e5.1] at h; rw [e5.2]; have H20 := Lib.hid h; clear h)
        | (go_at_call 11; (with_reducible show Calls _ _ _ w20 _); refine (H20.out.read 2).mono ?_; rintro e w21 ⟨rfl, h⟩; have H21 := Lib.hid (H20.out.quiet h); clear h; simp only [r5])
        | ((with_reducible show wpList _ _ _ (Oper.mk _ (Op.alloc 33) _ _ _ _ :: _) _ _); refine wpList_allocA 33 rfl rfl (bcells zsec) zeroSec ?_)
        | ((with_reducible show wpList _ _ _ (Oper.mk _ (Op.store 33 (Operand.tmp 13) _) _ _ _ _ :: _) _ _); refine wpList_storeA 33 rfl _ _ rfl w21.heap.size 0 (bcells zsec) (by rfl) (by rfl) (th_fresh w21 zsec) (lenSec _) (bcells_one _) ?_; have H22 := Lib.hid ((H21.out.fresh zsec).sub (us := [(w6.heap.size, oS sB1), (w2.heap.size + 1, oS sB1), (w2.heap.size, oS sA)]) (fun p hp => .tail _ hp)); generalize hw : (w21.alloc (.cells (bcells zsec).toArray 33)).setCells w21.heap.size 0 (bcells zsec) = w22 at *; clear hw)
        | ((with_reducible show wpList _ _ _ (Oper.mk _ (Op.load 33 (Operand.tmp 1)) _ _ _ _ :: _) _ _); (with_reducible show wpList _ _ _ _ _ w22); refine wpList_loadA 33 _ rfl _ rfl w2.heap.size 0 (by rfl) (bcells sA) (H22.out.rd (.tail _ (.tail _ (.head _)))) Try.underlying33 rfl (lenSec _) ?_)
        | (go_at_call 22; (with_reducible show Calls _ _ _ w22 _); refine (H22.out.write 2 sA small5).mono ?_; rintro e w23 ⟨rfl, h⟩; rw [sA, e6.1] at h; have H23 : Hid (San w w23 b d6 [(w6.heap.size, oS sB1), (w2.heap.size + 1, oS sB1), (w2.heap.size, oS sA)]) := Lib.hid h; clear h; rw [e6.2])
        | (go_at_call 11; (with_reducible show Calls _ _ _ w23 _); refine (H23.out.read 2).mono ?_; rintro e w24 ⟨rfl, h⟩; have H24 := Lib.hid (H23.out.quiet h); clear h; simp only [r6])
        | ((with_reducible show wpList _ _ _ (Oper.mk _ (Op.store 33 (Operand.tmp 4) _) _ _ _ _ :: _) _ _); (with_reducible show wpList _ _ _ _ _ w24); refine wpList_storeA 33 rfl _ _ rfl w6.heap.size 0 (bcells sA) (by rfl) (by rfl) (H24.out.th (.head _) sA) (lenSec _) (bcells_one _) ?_; have H25 := Lib.hid (H24.out.restore sA (HZ.out _ _)); generalize hw : w24.setCells w6.heap.size 0 (bcells sA) = w25 at *; clear hw)
        | (go_at_call 20; (with_reducible show Calls _ _ _ w25 _); refine (H25.out.arm 0 (by omega)).mono ?_; rintro e w26 ⟨rfl, h⟩; rw [e7] at h; have H26 := Lib.hid h; clear h)
        | ((with_reducible show wpList _ _ _ (Oper.mk _ (Op.load 33 (Operand.tmp 4)) _ _ _ _ :: _) _ _); (with_reducible show wpList _ _ _ _ _ w26); refine wpList_loadA 33 _ rfl _ rfl w6.heap.size 0 (by rfl) (bcells sA) (H26.out.rd (.head _)) Try.underlying33 rfl (lenSec _) ?_)
        | ((with_reducible show wpList _ _ _ (Oper.mk _ (Op.load 33 (Operand.tmp 1)) _ _ _ _ :: _) _ _); (with_reducible show wpList _ _ _ _ _ w26); refine wpList_loadA 33 _ rfl _ rfl w2.heap.size 0 (by rfl) (bcells sA) (H26.out.rd (.tail _ (.tail _ (.head _)))) Try.underlying33 rfl (lenSec _) ?_)
        | ((with_reducible show wpList _ _ _ (Oper.mk _ (Op.binOp BinOp.eql 33 _ _ _) _ _ _ _ :: _) _ _); (with_reducible show wpList _ _ _ _ _ w26); refine eqB_same rfl _ _ rfl sA (by rfl) (by rfl) ?_)
        | (go_at_call 22; (with_reducible show Calls _ _ _ w26 _); refine (H26.out.write 0 sA small7).mono ?_; rintro e w27 ⟨rfl, h⟩; rw [sA, e8.1] at h; have H27 : Hid (San w w27 b d8 [(w6.heap.size, oS sA), (w2.heap.size + 1, oS sB1), (w2.heap.size, oS sA)]) := Lib.hid h; clear h; rw [e8.2])
        | (go_at_call 16; (with_reducible show Calls _ _ _ w27 _); refine (H27.out.down).mono ?_; rintro e w' ⟨rfl, rfl⟩; rw [show d8.dead = true from rfl])
        | (go_at_call 11; (with_reducible show Calls _ _ _ w27 _); refine (H27.out.read 0).mono ?_; rintro e w28 ⟨rfl, h⟩; have H28 := Lib.hid (H27.out.quiet h); clear h; simp only [r8]))
      go_ret
      exact ⟨rfl, H28.out.kp⟩

end Go.Proofs.Ytopeelclhpjngaa
