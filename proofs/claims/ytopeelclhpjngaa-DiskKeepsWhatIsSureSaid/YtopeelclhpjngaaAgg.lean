/- Values of many cells (arrays of bytes, structs that hold them) at the walk's operations. -/
import Derived.Test.YtopeelclhpjngaaMem
import Derived.StillTailTactics
import Derived.OrdersHeld
namespace Go.Proofs.Ytopeelclhpjngaa
set_option linter.unusedSimpArgs false
set_option linter.unusedVariables false
open Go Go.ChangeMaps Go.RowKit

/-- A value of many cells. -/
def av (cs : List Value) : Value := .agg cs.toArray
theorem av_cells (cs : List Value) : (av cs).cells = cs.toArray := rfl
theorem bv_av {n : Nat} (s : Bytes n) : bv s = av (bcells s) := rfl

section
variable {P : Program} {ops : Array Oper} {rest : List Oper} {op : Oper} {a : Act} {w : World} {Q : Exit → Act → World → Prop}

theorem wpList_loadA (T : TypeId) (d : TypeDesc) (hgd : op.guard = none) (x : Operand) (ho : op.op = .load T x) (b o : Nat) (hx : a.eval x = .pointer (some ⟨b, o, none⟩)) (cs : List Value)
    (hc : w.rangeAt b o cs) (hu : P.underlying T = some d) (hd : d.isRow = true) (hi : (P.info? T).map (·.size) = some cs.length)
    (h : wpList P ops Q rest (a.put op.dst (av cs)) w) : wpList P ops Q (op :: rest) a w :=
  wpList_load_mid hgd T x ho b o hx cs d hc hu hd hi h

theorem wpList_storeA (T : TypeId) (hgd : op.guard = none) (x y : Operand) (ho : op.op = .store T x y) (b o : Nat) (cs : List Value) (hx : a.eval x = .pointer (some ⟨b, o, none⟩)) (hy : a.eval y = av cs)
    (ht : w.there b o cs.length) (hi : (P.info? T).map (·.size) = some cs.length) (h1 : ∀ v ∈ cs, v.oneCell' = true)
    (h : wpList P ops Q rest (a.put op.dst undef) (w.setCells b o cs)) : wpList P ops Q (op :: rest) a w :=
  wpList_store_mid hgd T x y ho b o cs.toArray hx hy (by simpa using ht) (by simpa using hi) (all_oneCell_toArray h1) h

theorem run_box_av (w : World) (T : TypeId) (cs : List Value) : (Instr.box T (av cs)).run P w = .ok (.pointer (some ⟨w.heap.size, 0, none⟩)) (w.alloc (.cells cs.toArray T)) := by
  simp [Instr.box, newVar, newRow, av, Value.cells]

theorem wpList_boxA (T : TypeId) (hgd : op.guard = none) (x : Operand) (ho : op.op = .box T x) (cs : List Value) (hx : a.eval x = av cs)
    (h : wpList P ops Q rest (a.put op.dst (.pointer (some ⟨w.heap.size, 0, none⟩))) (w.alloc (.cells cs.toArray T))) : wpList P ops Q (op :: rest) a w := by
  refine wpList_plain hgd fun K hK => ?_
  unfold Oper.wp execOp
  simp only [ho, hx, Sem.run_bind, run_box_av, Result.andThen_ok, Sem.run_pure]
  exact hK _ _ h

theorem run_alloc_av (w : World) (T : TypeId) (cs : List Value) (hz : ∀ w, (zeroValue T).run P w = .ok (av cs) w) :
    (Instr.alloc T true (.tuple #[])).run P w = .ok (.pointer (some ⟨w.heap.size, 0, none⟩)) (w.alloc (.cells cs.toArray T)) := by
  simp [Instr.alloc, hz, newVar, newRow, av, Value.cells]

theorem wpList_allocA (T : TypeId) (hgd : op.guard = none) (ho : op.op = .alloc T) (cs : List Value) (hz : ∀ w, (zeroValue T).run P w = .ok (av cs) w)
    (h : wpList P ops Q rest (a.put op.dst (.pointer (some ⟨w.heap.size, 0, none⟩))) (w.alloc (.cells cs.toArray T))) : wpList P ops Q (op :: rest) a w := by
  refine wpList_plain hgd fun K hK => ?_
  unfold Oper.wp execOp
  simp only [ho, Sem.run_bind, run_alloc_av w T cs hz, Result.andThen_ok, Sem.run_pure]
  exact hK _ _ h

/-- An operation whose run is known. -/
theorem wpList_run (v : Value) (w' : World) (hgd : op.guard = none) (hr : (execOp a.eval op).run P w = .ok (.value v) w') (h : wpList P ops Q rest (a.put op.dst v) w') : wpList P ops Q (op :: rest) a w := by
  refine wpList_plain hgd fun K hK => ?_
  unfold Oper.wp
  rw [hr]
  exact hK _ _ h

theorem foldl_over (vs : List Value) : ∀ (k off : Nat) (C : List Value), off + k + vs.length ≤ C.length →
    ((vs.zipIdx k).foldl (fun (cs : Array Value) (p : Value × Nat) => cs.setIfInBounds (off + p.2) p.1) C.toArray) = (over C (off + k) vs).toArray := by
  induction vs with
  | nil => intro k off C _; simp [over]
  | cons v r ih =>
    intro k off C h
    simp only [List.length_cons] at h
    simp only [List.zipIdx_cons, List.foldl_cons, List.setIfInBounds_toArray]
    rw [ih (k + 1) off (C.set (off + k) v) (by simp; omega)]
    have := over_cons C (off + k) v r (by simp; omega)
    rw [← this, Nat.add_assoc]

theorem run_build_none (w : World) (T : TypeId) (cs : List Value) (d : TypeDesc) (hu : P.underlying T = some d) (hd : (match d with | .array _ _ => true | _ => false) = true) (hz : ∀ w, (zeroValue T).run P w = .ok (av cs) w) (hE : ∀ n e, d = .array n e → (P.info? e).isSome = true) :
    (Instr.build T #[]).run P w = .ok (av cs) w := by
  cases d <;> simp at hd
  rename_i n e
  have := hE n e rfl
  cases hi : P.info? e with
  | none => simp [hi] at this
  | some i => simp [Instr.build, hz, run_underlying hu, sizeOf, typeInfo, hi, Instr.fill, av, Value.cells]

theorem wpList_buildA (v : Value) (T : TypeId) (hgd : op.guard = none) (ps : Array (Nat × Operand)) (ho : op.op = .build T ps) (qs : Array (Nat × Value)) (hq : ps.map (fun p => (p.1, a.eval p.2)) = qs)
    (hr : (Instr.build T qs).run P w = .ok v w) (h : wpList P ops Q rest (a.put op.dst v) w) : wpList P ops Q (op :: rest) a w := by
  refine wpList_plain hgd fun K hK => ?_
  unfold Oper.wp execOp
  simp only [ho, hq, Sem.run_bind, hr, Result.andThen_ok, Sem.run_pure]
  exact hK _ _ h
end

/-! ### The head of a region that draws its order: operations that leave the world alone -/
section
variable {P : Program} {ops : Array Oper} {rest : List Oper} {op : Oper} {a : Act} {w : World} {Q : Act → Prop}
theorem still_value (v : Value) (hgd : op.guard = none) (hr : (execOp a.eval op).run P w = .ok (.value v) w) (h : wpStill P ops w Q rest (a.put op.dst v)) : wpStill P ops w Q (op :: rest) a := by
  refine wpStill_step (fun K hK => ?_)
  rw [if_pos (by simp [Region.wanted, hgd])]
  unfold Oper.still
  rw [hr, Oper.stillUpon_value]
  exact hK _ h
theorem still_loadA (T : TypeId) (d : TypeDesc) (hgd : op.guard = none) (x : Operand) (ho : op.op = .load T x) (b o : Nat) (hx : a.eval x = .pointer (some ⟨b, o, none⟩)) (cs : List Value)
    (hc : w.rangeAt b o cs) (hu : P.underlying T = some d) (hd : d.isRow = true) (hi : (P.info? T).map (·.size) = some cs.length)
    (h : wpStill P ops w Q rest (a.put op.dst (av cs))) : wpStill P ops w Q (op :: rest) a := by
  refine still_value (av cs) hgd ?_ h
  unfold execOp
  simp only [ho, hx, Instr.loadAt, Instr.sureAddr, Sem.run_bind, Sem.run_pure, Result.andThen_ok, run_loadVar_mid w b o T cs d hc hu hd hi]
  rfl
theorem still_buildA (v : Value) (T : TypeId) (hgd : op.guard = none) (ps : Array (Nat × Operand)) (ho : op.op = .build T ps) (qs : Array (Nat × Value)) (hq : ps.map (fun p => (p.1, a.eval p.2)) = qs)
    (hr : (Instr.build T qs).run P w = .ok v w) (h : wpStill P ops w Q rest (a.put op.dst v)) : wpStill P ops w Q (op :: rest) a := by
  refine still_value v hgd ?_ h
  unfold execOp
  simp only [ho, hq, Sem.run_bind, hr, Result.andThen_ok, Sem.run_pure]
end

/-! ### Operations of a region that draws its order -/
section
variable {P : Program} {ops : Array Oper} {op : Oper} {a : Act} {w : World} {K : Act → World → Prop} {Q : Exit → Act → World → Prop} {E : Prop}
theorem step_value (v : Value) (w' : World) (hgd : op.guard = none) (hr : (execOp a.eval op).run P w = .ok (.value v) w') (h : K (a.put op.dst v) w') :
    if Region.wanted op (yielded ops a.tmps) = true then Oper.wp P op a w K Q else E := by
  rw [if_pos (by simp [Region.wanted, hgd])]
  unfold Oper.wp
  rw [hr]
  exact h
theorem step_skip (w' : World) (hgd : op.guard = none) (hr : (execOp a.eval op).run P w = .ok .skip w') (h : K (a.put op.dst undef) w') :
    if Region.wanted op (yielded ops a.tmps) = true then Oper.wp P op a w K Q else E := by
  rw [if_pos (by simp [Region.wanted, hgd])]
  unfold Oper.wp
  rw [hr]
  exact h
theorem step_update (T : TypeId) (m k x : Operand) (ho : op.op = .mapUpdate T m k x) (hgd : op.guard = none) (mv kv xv : Value) (hm : a.eval m = mv) (hk : a.eval k = kv) (hx : a.eval x = xv) (w' : World)
    (hr : (Instr.mapUpdate T mv kv xv).run P w = .ok () w') (h : K (a.put op.dst undef) w') : if Region.wanted op (yielded ops a.tmps) = true then Oper.wp P op a w K Q else E := by
  refine step_skip w' hgd ?_ h
  unfold execOp
  simp only [ho, hm, hk, hx, Sem.run_bind, hr, Result.andThen_ok, Sem.run_pure]
theorem step_buildSlice (T : TypeId) (n : Nat) (ps : Array (Nat × Operand)) (ho : op.op = .buildSlice T n ps) (hgd : op.guard = none) (qs : Array (Nat × Value)) (hq : ps.map (fun p => (p.1, a.eval p.2)) = qs) (v : Value) (w' : World)
    (hr : (Instr.buildSlice T n qs).run P w = .ok v w') (h : K (a.put op.dst v) w') : if Region.wanted op (yielded ops a.tmps) = true then Oper.wp P op a w K Q else E := by
  refine step_value v w' hgd ?_ h
  unfold execOp
  simp only [ho, hq, Sem.run_bind, hr, Result.andThen_ok, Sem.run_pure]
theorem step_lookup (T : TypeId) (m k : Operand) (c : Bool) (ho : op.op = .lookup T m k c) (hgd : op.guard = none) (mv kv : Value) (hm : a.eval m = mv) (hk : a.eval k = kv) (v : Value) (w' : World)
    (hr : (Instr.lookup T mv kv c).run P w = .ok v w') (h : K (a.put op.dst v) w') : if Region.wanted op (yielded ops a.tmps) = true then Oper.wp P op a w K Q else E := by
  refine step_value v w' hgd ?_ h
  unfold execOp
  simp only [ho, hm, hk, Sem.run_bind, hr, Result.andThen_ok, Sem.run_pure]
end

theorem fill_one (place : Nat → Option (Nat × Nat)) (C cs : List Value) (i off : Nat) (hp : place i = some (off, cs.length)) (h : off + cs.length ≤ C.length) : Instr.fill place C.toArray [(i, av cs)] = some (over C off cs).toArray := by
  have hf := foldl_over cs 0 off C (by omega)
  simp only [Nat.add_zero] at hf
  simp only [Instr.fill, hp, av_cells]
  simp [h, ← hf, Nat.not_lt.2 h]

theorem over_all (C vs : List Value) (h : C.length = vs.length) : over C 0 vs = vs := by simp [over, ← h]
/-- A variable of many cells is written over. -/
theorem heap_fill {w : World} {b : Nat} {C vs : List Value} {t : TypeId} {fr : Nat × Nat} (h : w.heap[b]? = some (.cells C.toArray t fr)) (hl : C.length = vs.length) : (w.setCells b 0 vs).heap[b]? = some (.cells vs.toArray t fr) := by
  rw [heap_setCells_same vs 0 w C h (by omega), over_all C vs hl]
theorem range_all {w : World} {b : Nat} {vs : List Value} {t : TypeId} {fr : Nat × Nat} (h : w.heap[b]? = some (.cells vs.toArray t fr)) : w.rangeAt b 0 vs := rangeAt_of h 0 vs (by rw [List.drop_zero, List.take_length])
theorem there_all {w : World} {b : Nat} {vs : List Value} {t : TypeId} (h : w.heap[b]? = some (.cells vs.toArray t (0, 0))) {n : Nat} (hn : n = vs.length) : w.there b 0 n := there_of h 0 n (by omega)

/-- '==' and '!=' of arrays of bytes. -/
theorem run_eqB {P : Program} {T E : TypeId} {n : Nat} (ht : P.underlying T = some (.array n E)) (he : P.underlying E = some (.int .u8)) (hs : (P.info? E).map (·.size) = some 1) (hg : P.eqGuardType P.depth T = false) (x y : Operand) (s t : Bytes n) (w : World) :
    ((do eqGuard .eql T x y (bv s) (bv t); binOp .eql T (bv s) (bv t)) : Sem Value).run P w = .ok (.bool (decide (s = t))) w := by
  have h1 : (eqGuard .eql T x y (bv s) (bv t)).run P w = .ok () w := run_eqGuard_agg w .eql T x y _ _ hg
  have h2 : (binOp .eql T (bv s) (bv t)).run P w = _ := run_eql_struct w T _ _
  have h3 := run_equalIn_bytes ht he hs w 9998 s t
  rw [Sem.run_bind, h1, Result.andThen_ok, h2]
  unfold bv at h3
  rw [h3]
  rfl
theorem run_neB {P : Program} {T E : TypeId} {n : Nat} (ht : P.underlying T = some (.array n E)) (he : P.underlying E = some (.int .u8)) (hs : (P.info? E).map (·.size) = some 1) (hg : P.eqGuardType P.depth T = false) (x y : Operand) (s t : Bytes n) (w : World) :
    ((do eqGuard .neq T x y (bv s) (bv t); binOp .neq T (bv s) (bv t)) : Sem Value).run P w = .ok (.bool (!decide (s = t))) w := by
  have h1 : (eqGuard .neq T x y (bv s) (bv t)).run P w = .ok () w := run_eqGuard_agg w .neq T x y _ _ hg
  have h2 : (binOp .neq T (bv s) (bv t)).run P w = _ := run_neq_struct w T _ _
  have h3 := run_equalIn_bytes ht he hs w 9998 s t
  rw [Sem.run_bind, h1, Result.andThen_ok, h2]
  unfold bv at h3
  rw [h3]
  rfl
section
variable {P : Program} {ops : Array Oper} {rest : List Oper} {op : Oper} {a : Act} {w : World} {Q : Exit → Act → World → Prop}
theorem wpList_eqB {T T' E : TypeId} {n : Nat} (ht : P.underlying T = some (.array n E)) (he : P.underlying E = some (.int .u8)) (hs : (P.info? E).map (·.size) = some 1) (hG : P.eqGuardType P.depth T = false) (hgd : op.guard = none) (x y : Operand) (ho : op.op = .binOp .eql T x y T')
    (s t : Bytes n) (hx : a.eval x = bv s) (hy : a.eval y = bv t) (h : wpList P ops Q rest (a.put op.dst (.bool (decide (s = t)))) w) : wpList P ops Q (op :: rest) a w := by
  refine wpList_run _ w hgd ?_ h
  have := run_eqB ht he hs hG x y s t w
  unfold execOp
  simp only [ho, hx, hy]
  rw [Sem.run_bind, this]
  rfl
theorem wpList_neB {T T' E : TypeId} {n : Nat} (ht : P.underlying T = some (.array n E)) (he : P.underlying E = some (.int .u8)) (hs : (P.info? E).map (·.size) = some 1) (hG : P.eqGuardType P.depth T = false) (hgd : op.guard = none) (x y : Operand) (ho : op.op = .binOp .neq T x y T')
    (s t : Bytes n) (hx : a.eval x = bv s) (hy : a.eval y = bv t) (h : wpList P ops Q rest (a.put op.dst (.bool (!decide (s = t)))) w) : wpList P ops Q (op :: rest) a w := by
  refine wpList_run _ w hgd ?_ h
  have := run_neB ht he hs hG x y s t w
  unfold execOp
  simp only [ho, hx, hy]
  rw [Sem.run_bind, this]
  rfl
end

/-! ### A region that draws its order, by hand -/
section
variable {P : Program} {md : Region.Mode} {ops : Array Oper} {Q : Exit → Act → World → Prop} {S : World → Prop} {fuel : Nat} {listed : Array Bool} {a : Act} {w : World}
theorem anyH_one {i : Nat} (hr : Region.ready md ops listed = [i]) (h : wpOp P ops Q i (fun a' w' => S w' ∧ wpAnyH P md ops Q S fuel (listed.setIfInBounds i true) a' w') a w) : wpAnyH P md ops Q S (fuel + 1) listed a w :=
  wpAnyH_all hr (by simp) (fun j hj => by simp only [List.mem_singleton] at hj; subst hj; exact h)
theorem anyH_two {i j : Nat} (hr : Region.ready md ops listed = [i, j]) (h : wpOp P ops Q i (fun a' w' => S w' ∧ wpAnyH P md ops Q S fuel (listed.setIfInBounds i true) a' w') a w)
    (h' : wpOp P ops Q j (fun a' w' => S w' ∧ wpAnyH P md ops Q S fuel (listed.setIfInBounds j true) a' w') a w) : wpAnyH P md ops Q S (fuel + 1) listed a w :=
  wpAnyH_all hr (by simp) (fun x hx => by
    simp only [List.mem_cons, List.not_mem_nil, or_false] at hx
    rcases hx with rfl | rfl
    · exact h
    · exact h')
theorem wpOp_value {i : Nat} {o : Oper} {K : Act → World → Prop} (v : Value) (w' : World) (hi : ops[i]? = some o) (hg : o.guard = none) (hr : (execOp a.eval o).run P w = .ok (.value v) w') (h : K (a.put o.dst v) w') : wpOp P ops Q i K a w := by
  unfold wpOp
  rw [hi]
  simp only
  rw [if_pos (by simp [Region.wanted, hg])]
  refine .inl ?_
  unfold Oper.wp
  rw [hr]
  exact h
theorem wpOp_skip {i : Nat} {o : Oper} {K : Act → World → Prop} (w' : World) (hi : ops[i]? = some o) (hg : o.guard = none) (hr : (execOp a.eval o).run P w = .ok .skip w') (h : K (a.put o.dst undef) w') : wpOp P ops Q i K a w := by
  unfold wpOp
  rw [hi]
  simp only
  rw [if_pos (by simp [Region.wanted, hg])]
  refine .inl ?_
  unfold Oper.wp
  rw [hr]
  exact h
theorem wpOp_calls {i : Nat} {o : Oper} {K : Act → World → Prop} (f : FuncId) (args : Array Value) (w' : World) (hi : ops[i]? = some o) (hg : o.guard = none) (hr : (execOp a.eval o).run P w = .ok (.enter f args) w')
    (h : Calls P f args w' fun e w'' => ∃ v, e = .returned v ∧ K (a.put o.dst v) w'') : wpOp P ops Q i K a w := by
  unfold wpOp
  rw [hi]
  simp only
  rw [if_pos (by simp [Region.wanted, hg])]
  refine .inl ?_
  unfold Oper.wp
  rw [hr]
  refine h.mono ?_
  rintro e w'' ⟨v, rfl, hk⟩
  exact hk
theorem wpOp_allocA {i : Nat} {o : Oper} {K : Act → World → Prop} (T : TypeId) (cs : List Value) (hi : ops[i]? = some o) (hg : o.guard = none) (ho : o.op = .alloc T) (hz : ∀ w, (zeroValue T).run P w = .ok (av cs) w)
    (h : K (a.put o.dst (.pointer (some ⟨w.heap.size, 0, none⟩))) (w.alloc (.cells cs.toArray T))) : wpOp P ops Q i K a w := by
  refine wpOp_value _ _ hi hg ?_ h
  unfold execOp
  simp only [ho, Sem.run_bind, run_alloc_av w T cs hz, Result.andThen_ok, Sem.run_pure]
theorem wpOp_storeA {i : Nat} {o : Oper} {K : Act → World → Prop} (T : TypeId) (x y : Operand) (b o' : Nat) (cs : List Value) (hi : ops[i]? = some o) (hg : o.guard = none) (ho : o.op = .store T x y) (hx : a.eval x = .pointer (some ⟨b, o', none⟩)) (hy : a.eval y = av cs)
    (ht : w.there b o' cs.length) (hs : (P.info? T).map (·.size) = some cs.length) (h1 : ∀ v ∈ cs, v.oneCell' = true) (h : K (a.put o.dst undef) (w.setCells b o' cs)) : wpOp P ops Q i K a w := by
  refine wpOp_skip _ hi hg ?_ h
  have hr := run_storeAt_mid (P := P) w b o' T cs.toArray (by simpa using ht) (by simpa using hs) (all_oneCell_toArray h1)
  unfold execOp
  simp only [ho, hx, hy, Sem.run_bind, av, hr, Result.andThen_ok, Sem.run_pure]
end

/-- '[]T{x}', x of many cells. -/
theorem run_buildSlice_one {P : Program} {T E : TypeId} (cs zs : List Value) (by_ : Nat) (hu : P.underlying T = some (.slice E)) (hE : (P.info? E).map (fun i => (i.zero, i.size, i.bytes)) = some (some (av zs), cs.length, by_)) (hz : zs.length = cs.length)
    (hsm : cs.length ≤ 16777216) (hpos : 0 < cs.length) (w : World) :
    (Instr.buildSlice T 1 #[(0, av cs)]).run P w = .ok (.slice (some ⟨w.heap.size, 0, none⟩) 1 1) (w.alloc (.cells cs.toArray E)) := by
  obtain ⟨i, hi, h1, h2, h3⟩ := info_parts hE
  have hl : ((Array.range cs.length).map (fun x => (zs.toArray)[x % zs.length]!)) = (List.map (fun x => (zs.toArray)[x % zs.length]!) (List.range cs.length)).toArray := by
    apply Array.toList_inj.1; simp
  have hfill : Instr.fill (fun i => some (i * cs.length, cs.length)) ((Array.range cs.length).map (fun x => (zs.toArray)[x % zs.length]!)) [(0, av cs)] = some cs.toArray := by
    rw [hl, fill_one _ _ cs 0 (0 * cs.length) rfl (by simp)]
    simp [over]
  have h0 : cs.length ≠ 0 := by omega
  simp only [Instr.buildSlice, Sem.run_bind, run_underlying hu, Result.andThen_ok, sizeOf, typeInfo, run_program, hi, Sem.run_pure, h2, Nat.one_mul]
  rw [if_neg (by omega)]
  simp only [Sem.run_pure, Result.andThen_ok, h0, if_false, zeroValue, typeInfo, Sem.run_bind, run_program, hi, h1, av_cells]
  simp only [List.size_toArray]
  rw [hfill]
  simp [newRow]

/-- A struct literal with one part of many cells. -/
theorem run_build_struct1 {P : Program} {T : TypeId} {fs : Array Field} (zs cs : List Value) (i off : Nat) (places : Array (Nat × Nat)) (hu : P.underlying T = some (.struct fs)) (hz : ∀ w, (zeroValue T).run P w = .ok (av zs) w)
    (hm : ∀ w, (fs.mapM (m := Sem) fun f => do pure (f.offset, ← sizeOf f.type)).run P w = .ok places w) (hp : places[i]? = some (off, cs.length)) (hl : off + cs.length ≤ zs.length) (w : World) :
    (Instr.build T #[(i, av cs)]).run P w = .ok (av (over zs off cs)) w := by
  simp only [Instr.build, Sem.run_bind, hz, Result.andThen_ok, run_underlying hu, av_cells, hm, fill_one (fun j => places[j]?) zs cs i off hp hl, Sem.run_pure]
  rfl

theorem run_loadVar_at {P : Program} {T : TypeId} {d : TypeDesc} (hu : P.underlying T = some d) (hd : d.isRow = true) (w : World) (g o : Nat) (cs : List Value) (hi : (P.info? T).map (·.size) = some cs.length) (hc : w.rangeAt g o cs) :
    (loadVar T ⟨g, o, none⟩).run P w = .ok (av cs) w := run_loadVar_mid w g o T cs d hc hu hd hi

/-- Two results, the first one a variable of many cells. -/
theorem results_cell2 {fn : Func} {t u : Tmp} {T : TypeId} (h : fn.results = #[.cell t T, .tmp u]) (tmps : Array Value) {P : Program} (w : World) (g o : Nat) (ht : tmps.getD t undef = .pointer (some ⟨g, o, none⟩)) (v : Value)
    (hl : (loadVar T ⟨g, o, none⟩).run P w = .ok v w) : (results fn tmps).run P w = .ok (.tuple #[v, tmps.getD u undef]) w := by
  have ht' : tmps[t]?.getD undef = .pointer (some ⟨g, o, none⟩) := by simpa using ht
  simp [results, h, ht', asAddr, hl]
theorem results_cell1 {fn : Func} {t : Tmp} {T : TypeId} (h : fn.results = #[.cell t T]) (tmps : Array Value) {P : Program} (w : World) (g o : Nat) (ht : tmps.getD t undef = .pointer (some ⟨g, o, none⟩)) (v : Value)
    (hl : (loadVar T ⟨g, o, none⟩).run P w = .ok v w) : (results fn tmps).run P w = .ok v w := by
  have ht' : tmps[t]?.getD undef = .pointer (some ⟨g, o, none⟩) := by simpa using ht
  simp [results, h, ht', asAddr, hl]

end Go.Proofs.Ytopeelclhpjngaa
