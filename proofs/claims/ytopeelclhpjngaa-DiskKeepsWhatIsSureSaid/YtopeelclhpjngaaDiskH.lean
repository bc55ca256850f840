/- The contract of Flip. -/
import Derived.Test.YtopeelclhpjngaaDiskF
import Derived.Test.YtopeelclhpjngaaDiskE
attribute [local go_sem ↓] Go.wp_at_zero Go.wp_at_succ
namespace Go.Proofs.Ytopeelclhpjngaa
set_option linter.unusedSimpArgs false
set_option linter.unusedVariables false
open Go Go.ChangeMaps Go.RowKit Go.Proofs

theorem run_part_agg {P : Program} {T : TypeId} {n : Nat} (ha : ∀ w : World, (isAgg T).run P w = .ok true w) (hs : ∀ w : World, (Go.sizeOf T).run P w = .ok n w) (cs : Array Value) (off : Nat) (w : World) :
    (part T cs off).run P w = .ok (.agg (cs.extract off (off + n))) w := by
  simp only [part, Sem.run_bind, ha, hs, Result.andThen_ok, if_true, Sem.run_pure]
theorem extract_head (a b : List Value) (n : Nat) (h : a.length = n) : (a ++ b).toArray.extract 0 (0 + n) = a.toArray := by
  subst h; simp
theorem get_last (a : List Value) (v : Value) (n : Nat) (h : a.length = n) : (a ++ [v]).toArray[n]? = some v := by
  subst h; simp

theorem run_eqPair {P : Program} {T A B : TypeId} {n : Nat} {f1 f2 : Field} (ht : P.underlying T = some (.struct #[f1, f2])) (h1 : f1.type = A) (h2 : f1.offset = 0) (h3 : f1.name ≠ "_") (h4 : f2.type = B) (h5 : f2.offset = n) (h6 : f2.name ≠ "_")
    (hst : P.stoodInHeld T = false) (w : World) (d : Nat) (xs ys : Array Value) (x1 y1 x2 y2 : Value)
    (px1 : (part A xs 0).run P w = .ok x1 w) (py1 : (part A ys 0).run P w = .ok y1 w) (px2 : (part B xs n).run P w = .ok x2 w) (py2 : (part B ys n).run P w = .ok y2 w) (b1 b2 : Bool)
    (e1 : (Op.equalIn d A x1 y1).run P w = .ok b1 w) (e2 : (Op.equalIn d B x2 y2).run P w = .ok b2 w) :
    (Op.equalIn (d + 1) T (.agg xs) (.agg ys)).run P w = .ok (b1 && b2) w := by
  rw [Op.equalIn]
  simp only [Sem.run_bind, run_underlying ht, Result.andThen_ok, run_program, hst, Bool.false_eq_true, if_false, ← Array.forIn_toList, List.forIn_cons, List.forIn_nil, h1, h2, h4, h5, ne_eq, h3, h6, not_false_eq_true, if_true, px1, py1, e1]
  cases b1
  · simp [Sem.run_pure]
  · simp only [Bool.not_true, Bool.false_eq_true, if_false, Sem.run_pure, Result.andThen_ok, Sem.run_bind, px2, py2, e2]
    cases b2 <;> simp [Sem.run_pure]

theorem run_equalIn_bool {P : Program} {B : TypeId} (hB : P.underlying B = some .bool) (w : World) (d : Nat) (x y : Bool) : (Op.equalIn (d + 1) B (.bool x) (.bool y)).run P w = .ok (x == y) w := by
  rw [Op.equalIn]
  simp [Sem.run_bind, run_underlying hB]

theorem run_eqCell (w : World) (d : Nat) (a b : Sec × Bool) : (Op.equalIn (d + 3) 73 (av (ccells a)) (av (ccells b))).run Try.prog w = .ok (decide (a = b)) w := by
  have p1 : ∀ c : Sec × Bool, (part 33 (ccells c).toArray 0).run Try.prog w = .ok (bv c.1) w := fun c => by
    rw [run_part_agg Try.isAgg33 Try.sizeOf33, ccells, extract_head _ _ _ (length_bcells _)]
    rfl
  have p2 : ∀ c : Sec × Bool, (part 4 (ccells c).toArray 64).run Try.prog w = .ok (.bool c.2) w := fun c => by
    have hg : (ccells c).toArray[64]? = some (.bool c.2) := get_last _ _ _ (length_bcells _)
    simp only [part, Sem.run_bind, Try.isAgg4, Result.andThen_ok, hg, Sem.run_pure, Bool.false_eq_true, if_false]
  have := run_eqPair (P := Try.prog) Try.underlying73 rfl rfl (by decide) rfl rfl (by decide) (by kernel_rfl) w (d + 2) (ccells a).toArray (ccells b).toArray _ _ _ _ (p1 a) (p1 b) (p2 a) (p2 b) _ _
    (run_equalIn_bytes (P := Try.prog) (T := 33) Try.underlying33 Try.underlying5 (by kernel_rfl) w d a.1 b.1) (run_equalIn_bool Try.underlying4 w (d + 1) a.2 b.2)
  have e : (decide (a.1 = b.1) && (a.2 == b.2)) = decide (a = b) := by
    clear this p1 p2
    obtain ⟨a1, a2⟩ := a
    obtain ⟨b1, b2⟩ := b
    by_cases h : a1 = b1 <;> cases a2 <;> cases b2 <;> simp [h]
  rw [e] at this
  exact this

section
variable {ops : Array Oper} {rest : List Oper} {op : Oper} {a : Act} {w : World} {Q : Exit → Act → World → Prop}
theorem wpList_neC {T' : TypeId} (hgd : op.guard = none) (x y : Operand) (ho : op.op = .binOp .neq 73 x y T')
    (s t : Sec × Bool) (hx : a.eval x = av (ccells s)) (hy : a.eval y = av (ccells t)) (h : wpList Try.prog ops Q rest (a.put op.dst (.bool (!decide (s = t)))) w) : wpList Try.prog ops Q (op :: rest) a w := by
  refine wpList_run _ w hgd ?_ h
  have h1 : (eqGuard .neq 73 x y (av (ccells s)) (av (ccells t))).run Try.prog w = .ok () w := run_eqGuard_agg w .neq _ x y _ _ (by kernel_rfl)
  have h2 : (binOp .neq 73 (av (ccells s)) (av (ccells t))).run Try.prog w = _ := run_neq_struct w _ _ _
  have h3 := run_eqCell w 9997 s t
  unfold execOp
  simp only [ho, hx, hy]
  have h4 : ((do eqGuard .neq 73 x y (av (ccells s)) (av (ccells t)); binOp .neq 73 (av (ccells s)) (av (ccells t))) : Sem Value).run Try.prog w = .ok (.bool (!decide (s = t))) w := by
    rw [Sem.run_bind, h1, Result.andThen_ok, h2]
    unfold av at h3
    rw [h3]
    rfl
  rw [Sem.run_bind, h4]
  rfl
end

/-- A bit of a byte is turned. -/
def flipByte (x : Int) (r : Nat) : Int := bits BinOp.xor IntKind.u8 x (IntKind.u8.wrap (2 ^ r))
/-- A bit of a sector is turned. -/
def flipS (s : Sec) (b : Nat) : Sec := s.setIfInBounds (b / 8) (flipByte (s.toList.getD (b / 8) 0) (b % 8))
def flipC (c : Sec × Bool) (b : Nat) : Sec × Bool := if c = (zsec, true) then c else (flipS c.1 b, c.2)
def Dsk.flipE (D : Dsk) (i bit : Int) : Int := if D.chk i ≠ 0 then D.chk i else if bit < 0 ∨ 512 ≤ bit then 1 else 0
def Dsk.flip (D : Dsk) (i bit : Int) : Dsk := if D.flipE i bit ≠ 0 then D else { D with cells := D.cells.set i.toNat (flipC (D.cells.getD i.toNat (zsec, false)) bit.toNat) }

theorem over_one (L C : List Value) (o q : Nat) (v : Value) (hC : (L.drop o).take C.length = C) (ho : o + C.length ≤ L.length) (hq : q < C.length) : over L o (C.set q v) = L.set (o + q) v := by
  have hL : L = L.take o ++ (C ++ L.drop (o + C.length)) := by
    conv => lhs; rw [← List.take_append_drop o L, ← List.take_append_drop C.length (L.drop o), hC, List.drop_drop]
  have hlo : (L.take o).length = o := by simp; omega
  unfold over
  conv => rhs; rw [hL]
  rw [List.set_append_right _ _ (by omega), hlo, Nat.add_sub_cancel_left, List.set_append_left _ _ hq, List.length_set, List.append_assoc]
theorem bcells_set {n : Nat} (s : Bytes n) (q : Nat) (x : Int) : bcells (s.setIfInBounds q x) = (bcells s).set q (.int .u8 x) := by
  simp [bcells, Vector.toList, List.map_set]
theorem ccells_set (c : Sec × Bool) (q : Nat) (x : Int) (hq : q < 64) : ccells (c.1.setIfInBounds q x, c.2) = (ccells c).set q (.int .u8 x) := by
  simp only [ccells, bcells_set]
  rw [List.set_append_left _ _ (by simpa using hq)]
theorem flatC_set (cells : List (Sec × Bool)) (k q : Nat) (x : Int) (hk : k < cells.length) (hq : q < 64) :
    (flatC cells).set (k * 65 + q) (.int .u8 x) = flatC (cells.set k (cells[k].1.setIfInBounds q x, cells[k].2)) := by
  rw [flatC, flatC, ← flat_over ccells 65 length_ccells cells k _ hk, ccells_set _ _ _ hq]
  refine (over_one _ _ _ _ _ ?_ ?_ ?_).symm
  · rw [length_ccells]; exact flat_at ccells 65 length_ccells cells k hk
  · have := length_flatC cells; rw [flatC] at this; rw [this, length_ccells]; omega
  · rw [length_ccells]; omega

theorem DskAt.recell {w w' : World} {b cb mb : Nat} {l : List Ent} {clock : Nat} {D : Dsk} {F : Nat → Prop} (h : DskAt w b cb mb l clock D F) (cells : List (Sec × Bool)) (hl : cells.length = D.cells.length)
    (hc : w'.heap[cb]? = some (.cells (flatC cells).toArray 73 (0, 0))) (hk : ∀ k, k ≠ cb → w'.heap[k]? = w.heap[k]?) (hs : w.heap.size ≤ w'.heap.size) :
    DskAt w' b cb mb l clock { D with cells := cells } F where
  hb := by rw [hk _ h.b_ne_c, h.hb]; simp [hl]
  hc := hc
  hm := (hk _ (Ne.symm h.c_ne_m)).trans h.hm
  ents := h.ents
  ok := fun x hx => by
    have ho := h.ok x hx
    have hne : ∀ g, x.val.ownBlock = some g → g ≠ cb := row_ne ho.own (List.length_pos_iff.2 ho.ne) h.hc (fun C e => by injection e with _ e _; revert e; decide)
    exact { own := (ho.step (w' := w') (fun _ h => h) (fun g hg => hk g (hne g hg))).own, ne := ho.ne, lo := ho.lo, hi := by simpa [hl] using ho.hi, foot := ho.foot }
  apart := h.apart
  keys := h.keys
  borns := h.borns
  young := h.young
  fb := h.fb
  fc := h.fc
  fm := h.fm
  lt := fun j hj => Nat.lt_of_lt_of_le (h.lt j hj) hs
  alo := h.alo
  ahi := h.ahi
  pos := by simpa [hl] using h.pos
  len := by simpa [hl] using h.len

set_option maxRecDepth 100000 in
set_option maxHeartbeats 1000000 in
theorem flip_yes (w : World) (b cb mb : Nat) (l : List Ent) (clock : Nat) (D : Dsk) (F : Nat → Prop) (h : DskAt w b cb mb l clock D F) (k q r : Nat) (hk : D.chk (k : Int) = 0) (bit : Int) (hq : bit.tdiv 8 = q) (hr : bit.tmod 8 = r) (hq1 : q < 64) (hr1 : r < 8)
    (hb0 : 0 ≤ bit) (hb1 : bit < 512) (c : Sec × Bool) (hc : D.cells[k]? = some c) (hne : c ≠ (zsec, true)) :
    Calls Try.prog 24 #[.pointer (some ⟨b, 0, none⟩), .int .i64 k, .int .i64 bit] w fun e w' => e = .returned (.int .i64 0) ∧ IsDsk w' b { D with cells := D.cells.set k (c.1.setIfInBounds q (flipByte c.1[q] r), c.2) } F ∧ Kp F w w' := by
  obtain ⟨_, h0, hn⟩ := chk0 hk
  have hkn : k < D.cells.length := by omega
  obtain ⟨hc0, -⟩ := dsk_cells h
  have hd : decide (c = (zsec, true)) = false := by simp [hne]
  have hck : c = D.cells[k] := by rw [List.getElem?_eq_getElem hkn] at hc; exact (Option.some.inj hc).symm
  have hrow : w.rangeAt cb (k * 65) (ccells c) := by rw [hck]; exact cell_range h.hc k hkn
  have HCK := Lib.hid hck
  clear hck
  have hx : w.cell? ⟨cb, k * 65 + q, none⟩ = some (.int .u8 c.1[q]) := by
    have := hrow q (.int .u8 c.1[q]) (by rw [ccells, List.getElem?_append_left (by simpa using hq1)]; exact bcells_get c.1 q hq1)
    simpa using this
  have hfx : w.frozen? ⟨cb, k * 65 + q, none⟩ = false := free_of h.hc _
  have hth := there_of (heap_alloc_new w (.cells (ccells (zsec, false)).toArray 73)) 0 65 (by simp)
  have HT := Lib.hid hth
  have HD := Lib.hid h
  have HK := Lib.hid hk
  have HR := Lib.hid hrow
  clear h hk hrow hth hc hne
  go_enter Try.func24, Try.ntmps24
  go_wp2_with (first
    | (go_at_call 34; refine (check_c _ b D F ⟨cb, mb, l, clock, HD.out⟩ _).mono ?_; rintro e w' ⟨rfl, rfl⟩; rw [HK.out])
    | ((with_reducible show wpList _ _ _ (Oper.mk _ (Op.alloc 73) _ _ _ _ :: _) _ _); refine wpList_allocA 73 rfl rfl (ccells (zsec, false)) zeroCell ?_)
    | ((with_reducible show wpList _ _ _ (Oper.mk _ (Op.load 73 (Operand.tmp 26)) _ _ _ _ :: _) _ _); refine wpList_loadA 73 _ rfl _ rfl cb (k * 65) (by rfl) (ccells c) HR.out Try.underlying73 rfl (lenCell _) ?_)
    | ((with_reducible show wpList _ _ _ (Oper.mk _ (Op.load 73 (Operand.tmp 8)) _ _ _ _ :: _) _ _); refine wpList_loadA 73 _ rfl _ rfl w.heap.size 0 (by rfl) (ccells c) (World.rangeAt_setCells_same _ _ _ _ (by rw [length_ccells]; exact HT.out)) Try.underlying73 rfl (lenCell _) ?_)
    | ((with_reducible show wpList _ _ _ (Oper.mk _ (Op.store 73 _ _) _ _ _ _ :: _) _ _); refine wpList_storeA 73 rfl _ _ rfl w.heap.size 0 (ccells c) (by rfl) (by rfl) (by rw [length_ccells]; exact HT.out) (lenCell _) (ccells_one _) ?_)
    | ((with_reducible show wpList _ _ _ (Oper.mk _ (Op.build _ _) _ _ _ _ :: _) _ _); refine wpList_buildA (av (ccells (zsec, true))) 73 rfl _ rfl #[(1, .bool true)] (by simp [Act.eval]) (rotCell _) ?_)
    | ((with_reducible show wpList _ _ _ (Oper.mk _ (Op.binOp BinOp.neq 73 _ _ _) _ _ _ _ :: _) _ _); refine wpList_neC rfl _ _ rfl c (zsec, true) (by rfl) (by rfl) ?_; rw [hd]))
  have hKW : Kp (fun _ => False) w ((w.alloc (.cells (ccells (zsec, false)).toArray 73)).setCells w.heap.size 0 (ccells c)) := Kp.setCells (fun h => absurd h (by omega)) _ _ _ ((Kp.refl _ _).alloc _)
  generalize (w.alloc (.cells (ccells (zsec, false)).toArray 73)).setCells w.heap.size 0 (ccells c) = W at *
  have hDW := HD.out.step (w' := W) (fun _ h => h) (fun k hk => hKW.block k (HD.out.lt k hk) (fun h => h)) (fun k hk => Nat.lt_of_lt_of_le (HD.out.lt k hk) hKW.size)
  have hcbl := HD.out.lt cb HD.out.fc
  have hc0W := (dsk_cells hDW).1
  have hxW : W.cell? ⟨cb, k * 65 + q, none⟩ = some (.int .u8 c.1[q]) := (cell_of hDW.hc _).trans ((cell_of HD.out.hc _).symm.trans hx)
  have hfxW : W.frozen? ⟨cb, k * 65 + q, none⟩ = false := free_of hDW.hc _
  have hq0 : (0 : Int) ≤ (q : Int) := by omega
  have hq64 : (q : Int) < 64 := by omega
  have hr8 : (r : Int) < 8 := by omega
  have hr0 : (0 : Int) ≤ (r : Int) := by omega
  have hwq : IntKind.i64.wrap (q : Int) = (q : Int) := IntWalk.i64_in _ (by omega)
  have hwr : IntKind.i64.wrap (r : Int) = (r : Int) := IntWalk.i64_in _ (by omega)
  have HDW := Lib.hid hDW
  have HKW := Lib.hid hKW
  clear hc0 hx hfx hDW hKW HD HT HR HK hcbl hd hb0 hb1
  go_region
  go_wp2
  go_ret
  have hDW := HDW.out
  refine ⟨rfl, ⟨cb, mb, l, clock, hDW.recell _ (by simp) ?_ ?_ ?_⟩, ?_⟩
  · have := heap_setCell_same (w := W) (b := cb) (o := k * 65 + q) hDW.hc (.int .u8 (flipByte c.1[q] r))
    refine this.trans ?_
    rw [List.setIfInBounds_toArray, flatC_set _ _ _ _ hkn hq1, HCK.out]
  · intro j hj
    exact heap_setCell_ne (a := ⟨cb, k * 65 + q, none⟩) hj _
  · simp [World.setCell]
  · exact (((HKW.out.mono (F' := F) (fun _ _ h => h.elim)).setCell (p := ⟨cb, k * 65 + q, none⟩) (fun _ => hDW.fc) _)).drew

set_option maxRecDepth 100000 in
set_option maxHeartbeats 1000000 in
theorem flip_rot (w : World) (b cb mb : Nat) (l : List Ent) (clock : Nat) (D : Dsk) (F : Nat → Prop) (h : DskAt w b cb mb l clock D F) (k : Nat) (hk : D.chk (k : Int) = 0) (bit : Int)
    (hb0 : 0 ≤ bit) (hb1 : bit < 512) (c : Sec × Bool) (hc : D.cells[k]? = some c) (hne : c = (zsec, true)) :
    Calls Try.prog 24 #[.pointer (some ⟨b, 0, none⟩), .int .i64 k, .int .i64 bit] w fun e w' => e = .returned (.int .i64 0) ∧ IsDsk w' b D F ∧ Kp F w w' := by
  obtain ⟨_, h0, hn⟩ := chk0 hk
  have hkn : k < D.cells.length := by omega
  obtain ⟨hc0, -⟩ := dsk_cells h
  have hd : decide (c = (zsec, true)) = true := by simp [hne]
  have hck : c = D.cells[k] := by rw [List.getElem?_eq_getElem hkn] at hc; exact (Option.some.inj hc).symm
  have hrow : w.rangeAt cb (k * 65) (ccells c) := by rw [hck]; exact cell_range h.hc k hkn
  have hth := there_of (heap_alloc_new w (.cells (ccells (zsec, false)).toArray 73)) 0 65 (by simp)
  have HT := Lib.hid hth
  have HD := Lib.hid h
  have HK := Lib.hid hk
  have HR := Lib.hid hrow
  clear h hk hrow hth hc hne hck
  go_enter Try.func24, Try.ntmps24
  go_wp2_with (first
    | (go_at_call 34; refine (check_c _ b D F ⟨cb, mb, l, clock, HD.out⟩ _).mono ?_; rintro e w' ⟨rfl, rfl⟩; rw [HK.out])
    | ((with_reducible show wpList _ _ _ (Oper.mk _ (Op.alloc 73) _ _ _ _ :: _) _ _); refine wpList_allocA 73 rfl rfl (ccells (zsec, false)) zeroCell ?_)
    | ((with_reducible show wpList _ _ _ (Oper.mk _ (Op.load 73 (Operand.tmp 26)) _ _ _ _ :: _) _ _); refine wpList_loadA 73 _ rfl _ rfl cb (k * 65) (by rfl) (ccells c) HR.out Try.underlying73 rfl (lenCell _) ?_)
    | ((with_reducible show wpList _ _ _ (Oper.mk _ (Op.load 73 (Operand.tmp 8)) _ _ _ _ :: _) _ _); refine wpList_loadA 73 _ rfl _ rfl w.heap.size 0 (by rfl) (ccells c) (World.rangeAt_setCells_same _ _ _ _ (by rw [length_ccells]; exact HT.out)) Try.underlying73 rfl (lenCell _) ?_)
    | ((with_reducible show wpList _ _ _ (Oper.mk _ (Op.store 73 _ _) _ _ _ _ :: _) _ _); refine wpList_storeA 73 rfl _ _ rfl w.heap.size 0 (ccells c) (by rfl) (by rfl) (by rw [length_ccells]; exact HT.out) (lenCell _) (ccells_one _) ?_)
    | ((with_reducible show wpList _ _ _ (Oper.mk _ (Op.build _ _) _ _ _ _ :: _) _ _); refine wpList_buildA (av (ccells (zsec, true))) 73 rfl _ rfl #[(1, .bool true)] (by simp [Act.eval]) (rotCell _) ?_)
    | ((with_reducible show wpList _ _ _ (Oper.mk _ (Op.binOp BinOp.neq 73 _ _ _) _ _ _ _ :: _) _ _); refine wpList_neC rfl _ _ rfl c (zsec, true) (by rfl) (by rfl) ?_; rw [hd]))
  go_ret
  have hKW : Kp (fun _ => False) w ((w.alloc (.cells (ccells (zsec, false)).toArray 73)).setCells w.heap.size 0 (ccells c)) := Kp.setCells (fun h => absurd h (by omega)) _ _ _ ((Kp.refl _ _).alloc _)
  exact ⟨rfl, ⟨cb, mb, l, clock, HD.out.step (fun _ h => h) (fun k hk => hKW.block k (HD.out.lt k hk) (fun h => h)) (fun k hk => Nat.lt_of_lt_of_le (HD.out.lt k hk) hKW.size)⟩, hKW.mono (fun _ _ h => h.elim)⟩

theorem flip_no (w : World) (b : Nat) (D : Dsk) (F : Nat → Prop) (h : IsDsk w b D F) (i bit : Int) (hE : D.flipE i bit ≠ 0) :
    Calls Try.prog 24 #[.pointer (some ⟨b, 0, none⟩), .int .i64 i, .int .i64 bit] w fun e w' => e = .returned (.int .i64 (D.flipE i bit)) ∧ IsDsk w' b D F ∧ Kp F w w' := by
  by_cases hk : D.chk i = 0
  · have hbit : bit < 0 ∨ 512 ≤ bit := by
      unfold Dsk.flipE at hE
      rw [if_neg (by simp [hk])] at hE
      by_cases hb : bit < 0 ∨ 512 ≤ bit
      · exact hb
      · rw [if_neg hb] at hE; exact absurd rfl hE
    have hR : D.flipE i bit = 1 := by unfold Dsk.flipE; rw [if_neg (by simp [hk]), if_pos hbit]
    rw [hR]
    have HK := Lib.hid hk
    have HI := Lib.hid h
    clear hk hE hR h
    rcases hbit with hbit | hbit
    · go_enter Try.func24, Try.ntmps24
      go_wp2_with (first
        | (go_at_call 34; refine (check_c _ b D F HI.out i).mono ?_; rintro e w' ⟨rfl, rfl⟩; rw [HK.out]))
      go_ret
      exact ⟨rfl, HI.out, Kp.refl _ _⟩
    · go_enter Try.func24, Try.ntmps24
      go_wp2_with (first
        | (go_at_call 34; refine (check_c _ b D F HI.out i).mono ?_; rintro e w' ⟨rfl, rfl⟩; rw [HK.out]))
      go_ret
      exact ⟨rfl, HI.out, Kp.refl _ _⟩
  · have hR : D.flipE i bit = D.chk i := by simp [Dsk.flipE, hk]
    rw [hR]
    generalize hc : D.chk i = c at *
    have hb : (c == 0) = false := by simpa using hk
    have HC := Lib.hid hc
    have HI := Lib.hid h
    clear hc hR hE h
    go_enter Try.func24, Try.ntmps24
    go_wp2_with (first
      | (go_at_call 34; refine (check_c _ b D F HI.out i).mono ?_; rintro e w' ⟨rfl, rfl⟩; rw [HC.out]))
    go_ret
    exact ⟨rfl, HI.out, Kp.refl _ _⟩

theorem flip_c (w : World) (b : Nat) (D : Dsk) (F : Nat → Prop) (h : IsDsk w b D F) (i bit : Int) :
    Calls Try.prog 24 #[.pointer (some ⟨b, 0, none⟩), .int .i64 i, .int .i64 bit] w fun e w' => e = .returned (.int .i64 (D.flipE i bit)) ∧ IsDsk w' b (D.flip i bit) F ∧ Kp F w w' := by
  by_cases hE : D.flipE i bit = 0
  · have hk : D.chk i = 0 := by
      by_cases hk : D.chk i = 0
      · exact hk
      · rw [Dsk.flipE, if_pos hk] at hE; exact hE
    have hbit : 0 ≤ bit ∧ bit < 512 := by
      rw [Dsk.flipE, if_neg (by simp [hk])] at hE
      by_cases hb : bit < 0 ∨ 512 ≤ bit
      · rw [if_pos hb] at hE; omega
      · omega
    obtain ⟨_, h0, hn⟩ := chk0 hk
    obtain ⟨k, rfl⟩ := Int.eq_ofNat_of_zero_le h0
    obtain ⟨m, rfl⟩ := Int.eq_ofNat_of_zero_le hbit.1
    have hkn : k < D.cells.length := by omega
    obtain ⟨cb, mb, l, clock, hD⟩ := h
    have hg : D.cells.getD k (zsec, false) = D.cells[k] := by simp [List.getD, hkn]
    rw [hE]
    have hF : D.flip (k : Int) (m : Int) = { D with cells := D.cells.set k (flipC D.cells[k] m) } := by simp only [Dsk.flip, hE, ne_eq, not_true, if_false, Int.toNat_natCast, hg]
    rw [hF]
    have hm8 : m / 8 < 64 := by omega
    by_cases hr : D.cells[k] = (zsec, true)
    · rw [show flipC D.cells[k] m = D.cells[k] by rw [flipC, if_pos hr], List.set_getElem_self]
      exact flip_rot w b cb mb l clock D F hD k hk m hbit.1 hbit.2 _ (List.getElem?_eq_getElem hkn) hr
    · have := flip_yes w b cb mb l clock D F hD k (m / 8) (m % 8) hk m (by rw [Int.tdiv_eq_ediv_of_nonneg (by omega)]; omega) (by rw [Int.tmod_eq_emod_of_nonneg (by omega)]; omega) hm8 (by omega) hbit.1 hbit.2 _ (List.getElem?_eq_getElem hkn) hr
      rw [show flipC D.cells[k] m = (D.cells[k].1.setIfInBounds (m / 8) (flipByte D.cells[k].1[m / 8] (m % 8)), D.cells[k].2) by
        rw [flipC, if_neg hr, flipS]
        simp [List.getD, hm8]]
      exact this
  · have := flip_no w b D F h i bit hE
    rw [show D.flip i bit = D by rw [Dsk.flip, if_pos hE]]
    exact this

end Go.Proofs.Ytopeelclhpjngaa
