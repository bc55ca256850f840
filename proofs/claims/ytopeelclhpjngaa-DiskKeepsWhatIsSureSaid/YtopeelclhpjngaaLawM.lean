/- DiskSpoils returns true. -/
import Derived.Test.YtopeelclhpjngaaLawK
import Derived.Test.YtopeelclhpjngaaLawL
attribute [local go_sem ↓] Go.wp_at_zero Go.wp_at_succ
namespace Go.Proofs.Ytopeelclhpjngaa
set_option linter.unusedSimpArgs false
set_option linter.unusedVariables false
open Go Go.ChangeMaps Go.RowKit Go.Proofs

theorem SanK.san {wz w : World} {b : Nat} {D : Dsk} {K : Nat → Prop} (h : SanK wz w b D K) : San wz w b D [] := by
  obtain ⟨F, hI, hF, _, hkp⟩ := h
  exact ⟨F, hI, hF, by simp, hkp⟩
theorem two_start {wz w1 : World} {b : Nat} {D : Dsk} {K : Nat → Prop} (h : SanK wz w1 b D K) (sure : List Sec) (vals : List Value) (hs : sure.length = 16) (hv : vals.length = 16) :
    San wz ((((w1.alloc (.cells (flatS z16).toArray 42)).alloc (.cells n16.toArray 44)).setCells w1.heap.size 0 (flatS sure)).setCells (w1.heap.size + 1) 0 vals) b D
      [(w1.heap.size, o42 sure), (w1.heap.size + 1, o44 vals)] := by
  have h1 := (h.san.alloc (flatS z16).toArray 42).alloc n16.toArray 44
  rw [World.size_alloc] at h1
  have h2 := (h1.sub (us := [(w1.heap.size, o42 z16), (w1.heap.size + 1, o44 n16)]) (by intro p hp; simp only [List.mem_cons, List.not_mem_nil, or_false] at hp ⊢; rcases hp with h | h <;> simp [h, o42, o44])).set
    (w' := ((w1.alloc (.cells (flatS z16).toArray 42)).alloc (.cells n16.toArray 44)).setCells w1.heap.size 0 (flatS sure)) (o' := o42 sure)
    (Kp.setCells (F := fun k => k = _) (fun _ => rfl) _ _ _ (Kp.refl _ _)) (heap_fill (h1.var (w1.heap.size, o42 z16) (.tail _ (.head _))) (by rw [length_flatS, length_flatS, hs]; rfl)) (by intro p hp; simp only [List.mem_cons, List.not_mem_nil, or_false] at hp; rw [hp]; simp)
  have h3 := (h2.sub (us := [(w1.heap.size + 1, o44 n16), (w1.heap.size, o42 sure)]) (by intro p hp; simp only [List.mem_cons, List.not_mem_nil, or_false] at hp ⊢; rcases hp with h | h <;> simp [h])).set
    (w' := (((w1.alloc (.cells (flatS z16).toArray 42)).alloc (.cells n16.toArray 44)).setCells w1.heap.size 0 (flatS sure)).setCells (w1.heap.size + 1) 0 vals) (o' := o44 vals)
    (Kp.setCells (F := fun k => k = _) (fun _ => rfl) _ _ _ (Kp.refl _ _)) (heap_fill (h2.var (w1.heap.size + 1, o44 n16) (.tail _ (.head _))) (by rw [length_n16, hv])) (by intro p hp; simp only [List.mem_cons, List.not_mem_nil, or_false] at hp; rw [hp]; simp)
  exact h3.sub (by intro p hp; simp only [List.mem_cons, List.not_mem_nil, or_false] at hp ⊢; rcases hp with h | h <;> simp [h])
theorem two_there (w1 : World) (sure : List Sec) (vals : List Value) (hs : sure.length = 16) (hv : vals.length = 16) :
    ((w1.alloc (.cells (flatS z16).toArray 42)).alloc (.cells n16.toArray 44)).there w1.heap.size 0 (flatS sure).length ∧
      (((w1.alloc (.cells (flatS z16).toArray 42)).alloc (.cells n16.toArray 44)).setCells w1.heap.size 0 (flatS sure)).there (w1.heap.size + 1) 0 vals.length := by
  have a1 : ((w1.alloc (.cells (flatS z16).toArray 42)).alloc (.cells n16.toArray 44)).heap[w1.heap.size]? = some (o42 z16) := (Below.heap_alloc _ _ _ (by simp)).trans (heap_alloc_new w1 _)
  have a2 : ((w1.alloc (.cells (flatS z16).toArray 42)).alloc (.cells n16.toArray 44)).heap[w1.heap.size + 1]? = some (o44 n16) := by
    have := heap_alloc_new (w1.alloc (.cells (flatS z16).toArray 42)) (.cells n16.toArray 44)
    rwa [World.size_alloc] at this
  exact ⟨there_all a1 (by rw [length_flatS, length_flatS, hs]; rfl), there_all ((heap_setCells_ne (by omega) _ _ _).trans a2) (by rw [length_n16, hv])⟩

/-- What DiskSpoils sees. -/
structure SpF (D D1 D2 D3 C C1 C2 : Dsk) (sure : List Sec) (s : Sec) (i b : Nat) (ks : List Int) : Prop where
  d1 : D.flip (i : Int) (b : Int) = D1
  d2 : D1.flip (i : Int) (b : Int) = D2
  d3 : D2.rot (i : Int) = D3
  dc : D3.crash ks = C
  dw : C.write (i : Int) (flipS s b) = C1
  dy : C1.sync = C2
  hs : sure[i]? = some s
  f1 : D.flipE (i : Int) (b : Int) = 0
  r1 : D1.read (i : Int) = (flipS s b, 0)
  f2 : D1.flipE (i : Int) (b : Int) = 0
  r2 : D2.read (i : Int) = (s, 0)
  c3 : D2.chk (i : Int) = 0
  sm : ∀ p ∈ D3.opn, p.2.length < 1073741824
  rd : ∀ (k : Nat) t, k < 16 → sure[k]? = some t → C.read (k : Int) = if k = i then (zsec, 221) else (t, 0)
  sc : ∀ p ∈ C.opn, p.2.length < 1073741824
  wr : C.writeE (i : Int) = 0
  sy : C1.syncE = 0
  fin : C2.read (i : Int) = (flipS s b, 0)
theorem SpF.mk' {m : Nat} {D : Dsk} {sure : List Sec} {L : List (List Sec)} (h : WInv m D sure L) (hL : L = List.replicate 16 []) (i b : Nat) (hi : i < 16) (hb : b < 512) (ks : List Int) : ∃ D1 D2 D3 C C1 C2 s, SpF D D1 D2 D3 C C1 C2 sure s i b ks := by
  have hc := h.calm hL
  obtain ⟨s, hs⟩ : ∃ s, sure[i]? = some s := ⟨_, List.getElem?_eq_getElem (by rw [h.lS]; exact hi)⟩
  have hF := h.fs s (List.mem_of_getElem? hs)
  have hs0 : (sure.map fun s => (s, false))[i]? = some (s, false) := by rw [List.getElem?_map, hs]; rfl
  have hil : i < sure.length := by rw [h.lS]; exact hi
  have f1 := hc.flip i hi b hb s hs0
  have hs1 : ((sure.map fun s => (s, false)).set i (flipS s b, false))[i]? = some (flipS s b, false) := List.getElem?_set_self (by simpa using hil)
  have f2 := f1.2.flip i hi b hb _ hs1
  rw [flipS_back s hF b hb] at f2
  have hs2 : (((sure.map fun s => (s, false)).set i (flipS s b, false)).set i (s, false))[i]? = some (s, false) := List.getElem?_set_self (by simpa using hil)
  have f3 := f2.2.rot i hi
  have f4 := f3.crash ks
  have f5 := f4.write i hi (flipS s b)
  refine ⟨_, _, _, _, _, _, s, rfl, rfl, rfl, rfl, rfl, rfl, hs, f1.1, ?_, f2.1, ?_, f2.2.chk i hi, f3.small, ?_, f4.small, f5.1, f5.2.1, ?_⟩
  · rw [f1.2.read i hi _ hs1]; rfl
  · rw [f2.2.read i hi _ hs2]; rfl
  · intro k t hk ht
    by_cases hki : k = i
    · subst hki
      rw [f4.read k hi (zsec, true) (List.getElem?_set_self (by simpa using hil))]; simp
    · rw [if_neg hki, f4.read k hk (t, false) (by rw [List.getElem?_set_ne (Ne.symm hki), List.getElem?_set_ne (Ne.symm hki), List.getElem?_set_ne (Ne.symm hki), List.getElem?_map, ht]; rfl)]
      rfl
  · rw [f5.2.2.read i hi (flipS s b, false) (List.getElem?_set_self (by simpa using hil))]; rfl

theorem sure_range {w : World} {r : Nat} {sure : List Sec} (h : w.heap[r]? = some (o42 sure)) (k : Nat) (t : Sec) (ht : sure[k]? = some t) : w.rangeAt r (k * 64) (bcells t) := by
  have hk := (List.getElem?_eq_some_iff.1 ht).1
  have hkt : sure[k] = t := (List.getElem?_eq_some_iff.1 ht).2
  exact rangeAt_of h _ _ (by rw [length_bcells, ← hkt]; exact flat_at bcells 64 length_bcells _ k hk)

section
variable {P : Program} {ops : Array Oper} {rest : List Oper} {op : Oper} {a : Act} {w : World} {Q : Act → Prop}
theorem stillG_value (v : Value) (hw : Region.wanted op (yielded ops a.tmps) = true) (hr : (execOp a.eval op).run P w = .ok (.value v) w) (h : wpStill P ops w Q rest (a.put op.dst v)) : wpStill P ops w Q (op :: rest) a := by
  refine wpStill_step (fun K hK => ?_)
  rw [if_pos hw]
  unfold Oper.still
  rw [hr, Oper.stillUpon_value]
  exact hK _ h
theorem stillG_skip (hw : Region.wanted op (yielded ops a.tmps) = false) (h : wpStill P ops w Q rest (a.put op.dst undef)) : wpStill P ops w Q (op :: rest) a := by
  unfold wpStill
  rw [hw]
  exact h
theorem stillG_loadA (T : TypeId) (d : TypeDesc) (hw : Region.wanted op (yielded ops a.tmps) = true) (x : Operand) (ho : op.op = .load T x) (b o : Nat) (hx : a.eval x = .pointer (some ⟨b, o, none⟩)) (cs : List Value)
    (hc : w.rangeAt b o cs) (hu : P.underlying T = some d) (hd : d.isRow = true) (hi : (P.info? T).map (·.size) = some cs.length)
    (h : wpStill P ops w Q rest (a.put op.dst (av cs))) : wpStill P ops w Q (op :: rest) a := by
  refine stillG_value (av cs) hw ?_ h
  unfold execOp
  simp only [ho, hx, Instr.loadAt, Instr.sureAddr, Sem.run_bind, Sem.run_pure, Result.andThen_ok, run_loadVar_mid w b o T cs d hc hu hd hi]
  rfl
end
theorem stillG_neS {ops : Array Oper} {rest : List Oper} {op : Oper} {a : Act} {w : World} {Q : Act → Prop} {T' : TypeId} (hw : Region.wanted op (yielded ops a.tmps) = true) (x y : Operand) (ho : op.op = .binOp .neq 33 x y T') (s t : Sec) (hx : a.eval x = bv s) (hy : a.eval y = bv t)
    (h : wpStill Try.prog ops w Q rest (a.put op.dst (.bool (!decide (s = t))))) : wpStill Try.prog ops w Q (op :: rest) a := by
  refine stillG_value _ hw ?_ h
  have := run_neB (P := Try.prog) Try.underlying33 Try.underlying5 (by kernel_rfl) (by kernel_rfl) x y s t w
  unfold execOp
  simp only [ho, hx, hy]
  rw [Sem.run_bind, this]
  rfl

attribute [local irreducible] wpStill in
set_option maxRecDepth 100000 in
set_option maxHeartbeats 40000000 in
theorem spoils_c (w : World) (lv kv : Value) (xs : List RefOp) (ks : List Int) (n bt : Nat) (hn : n ≤ 255) (hbt : bt ≤ 65535) (hxs : OpsIn w lv xs) (hks : Ints w kv ks) (hl : xs.length ≤ 30) :
    Calls Try.prog 6 #[lv, .int .u8 n, .int .u16 bt, kv] w fun e w' => e = .returned (.bool true) ∧ Kp (fun _ => False) w w' := by
  obtain ⟨pl, cl, rfl⟩ := hxs.len
  have h30 : ¬ (30 : Int) < (xs.length : Int) := by omega
  obtain ⟨i, hi⟩ : ∃ i, n % 16 = i := ⟨_, rfl⟩
  obtain ⟨b, hb⟩ : ∃ b, bt % 512 = b := ⟨_, rfl⟩
  have hwn : IntKind.i64.wrap (n : Int) = (n : Int) := IntWalk.i64_in _ (by omega)
  have hwb : IntKind.i64.wrap (bt : Int) = (bt : Int) := IntWalk.i64_in _ (by omega)
  have hmi : (n : Int) % 16 = (i : Int) := by omega
  have hmb : (bt : Int) % 512 = (b : Int) := by omega
  have hmi' : (n : Int).tmod 16 = (i : Int) := by rw [Int.tmod_eq_emod_of_nonneg (by omega)]; exact hmi
  have hmb' : (bt : Int).tmod 512 = (b : Int) := by rw [Int.tmod_eq_emod_of_nonneg (by omega)]; exact hmb
  have hn0 : (0 : Int) ≤ (n : Int) := by omega
  have hbt0 : (0 : Int) ≤ (bt : Int) := by omega
  have HX := Lib.hid (And.intro hxs (And.intro hks (And.intro hl (And.intro (show i < 16 by omega) (show b < 512 by omega)))))
  clear hxs hks hl hn hbt hi hb
  go_enter Try.func6, Try.ntmps6
  have hi0 : (0 : Int) ≤ (i : Int) := by omega
  have hi16 : (i : Int) < 16 := by have := HX.out.2.2.2.1; omega
  go_wp2_with (first
    | ((with_reducible show wpList _ _ _ (Oper.mk _ _ _ _ _ (some _) :: _) _ _); refine wpList_guarded (by rfl) ?_)
    | (go_at_call 13; refine (written_c w (.slice pl xs.length cl) xs xs.length HX.out.1 (by have := HX.out.2.2.1; omega)).mono ?_; rintro e w1 ⟨bb, D, sure, vals, L, rfl, hS, hR, hI, hL⟩; obtain ⟨D1, D2, D3, C, C1, C2, s, hsf⟩ := SpF.mk' hI (hL rfl) i b HX.out.2.2.2.1 HX.out.2.2.2.2 ks; have H1 := Lib.hid (And.intro hS (And.intro hR.lv (And.intro hI.lS (And.intro hsf hR.one)))); clear hS hR hI hL hsf)
    | ((with_reducible show wpList _ _ _ (Oper.mk _ (Op.alloc 42) _ _ _ _ :: _) _ _); refine wpList_allocA 42 rfl rfl (flatS z16) zero42 ?_)
    | ((with_reducible show wpList _ _ _ (Oper.mk _ (Op.alloc 44) _ _ _ _ :: _) _ _); refine wpList_allocA 44 rfl rfl n16 zero44 ?_)
    | ((with_reducible show wpList _ _ _ (Oper.mk _ (Op.store 42 _ _) _ _ _ _ :: _) _ _); refine wpList_storeA 42 rfl _ _ rfl w1.heap.size 0 (flatS sure) (by rfl) (by rfl) (two_there w1 sure vals H1.out.2.2.1 H1.out.2.1).1 (len42 sure H1.out.2.2.1) (flatS_oneC _) ?_)
    | ((with_reducible show wpList _ _ _ (Oper.mk _ (Op.store 44 _ _) _ _ _ _ :: _) _ _); refine wpList_storeA 44 rfl _ _ rfl (w1.heap.size + 1) 0 vals (by rfl) (by rfl) (two_there w1 sure vals H1.out.2.2.1 H1.out.2.1).2 (len44 vals H1.out.2.1) H1.out.2.2.2.2 ?_; have H2 := Lib.hid (two_start H1.out.1 sure vals H1.out.2.2.1 H1.out.2.1); generalize hw2 : (((w1.alloc (.cells (flatS z16).toArray 42)).alloc (.cells n16.toArray 44)).setCells w1.heap.size 0 (flatS sure)).setCells (w1.heap.size + 1) 0 vals = w2 at *; clear hw2; have SF := Lib.hid H1.out.2.2.2.1)
    | (go_at_call 24; (with_reducible show Calls _ _ _ w2 _); refine (H2.out.flip i b).mono ?_; rintro e w3 ⟨rfl, h⟩; rw [SF.out.d1] at h; rw [SF.out.f1]; have H3 := Lib.hid h; clear h)
    | ((with_reducible show wpList _ _ _ (Oper.mk _ (Op.load 33 (Operand.tmp 49)) _ _ _ _ :: _) _ _); (with_reducible show wpList _ _ _ _ _ w3); refine wpList_loadA 33 _ rfl _ rfl w1.heap.size (i * 64) (by rfl) (bcells s) (sure_range (H3.out.var (w1.heap.size, o42 sure) (.head _)) i s SF.out.hs) Try.underlying33 rfl (lenSec _) ?_)
    | ((with_reducible show wpList _ _ _ (Oper.mk _ (Op.alloc 33) _ _ _ _ :: _) _ _); refine wpList_allocA 33 rfl rfl (bcells zsec) zeroSec ?_)
    | ((with_reducible show wpList _ _ _ (Oper.mk _ (Op.store 33 (Operand.tmp 14) _) _ _ _ _ :: _) _ _); (with_reducible show wpList _ _ _ _ _ (World.alloc w3 _)); refine wpList_storeA 33 rfl _ _ rfl w3.heap.size 0 (bcells s) (by rfl) (by rfl) (th_fresh w3 _) (lenSec _) (bcells_one _) ?_; have H4 := Lib.hid (H3.out.fresh s); generalize hw4 : (w3.alloc (.cells (bcells zsec).toArray 33)).setCells w3.heap.size 0 (bcells s) = w4 at *; clear hw4))
  obtain ⟨q, hq⟩ : ∃ q, b / 8 = q := ⟨_, rfl⟩
  obtain ⟨r, hr⟩ : ∃ r, b % 8 = r := ⟨_, rfl⟩
  have hb512 := HX.out.2.2.2.2
  have hb0 : (0 : Int) ≤ (b : Int) := by omega
  have hq1 : (b : Int) / 8 = (q : Int) := by omega
  have hr1 : (b : Int) % 8 = (r : Int) := by omega
  have hq2 : (b : Int).tdiv 8 = (q : Int) := by rw [Int.tdiv_eq_ediv_of_nonneg hb0]; exact hq1
  have hr2 : (b : Int).tmod 8 = (r : Int) := by rw [Int.tmod_eq_emod_of_nonneg hb0]; exact hr1
  have hq64 : q < 64 := by omega
  have hx : w4.cell? ⟨w3.heap.size, q, none⟩ = some (.int .u8 s[q]) := (cell_of (H4.out.var (w3.heap.size, oS s) (.head _)) q).trans (by simpa using bcells_get s q hq64)
  have hfx : w4.frozen? ⟨w3.heap.size, q, none⟩ = false := free_of (H4.out.var (w3.heap.size, oS s) (.head _)) q
  have hq0 : (0 : Int) ≤ (q : Int) := by omega
  have hq64' : (q : Int) < 64 := by omega
  have hr8 : (r : Int) < 8 := by omega
  have hr0 : (0 : Int) ≤ (r : Int) := by omega
  have hwq : IntKind.i64.wrap (q : Int) = (q : Int) := IntWalk.i64_in _ (by omega)
  have hwr : IntKind.i64.wrap (r : Int) = (r : Int) := IntWalk.i64_in _ (by omega)
  have H5 : Hid (San w ((w4.setCell ⟨w3.heap.size, q, none⟩ (.int .u8 (flipByte s[q] r))).drew) bb D1 [(w3.heap.size, oS (flipS s b)), (w1.heap.size, o42 sure)]) := by
    refine Lib.hid ((San.quiet ?_ ((Kp.refl _ _).drew)))
    have h1 := H4.out.sub (us := [(w3.heap.size, oS s), (w1.heap.size, o42 sure)]) (by intro p hp; simp only [List.mem_cons, List.not_mem_nil, or_false] at hp ⊢; rcases hp with h | h <;> simp [h])
    refine h1.set (Kp.setCell (F := fun k => k = w3.heap.size) (p := ⟨w3.heap.size, q, none⟩) (Kp.refl _ _) (fun _ => rfl) _) ?_ ?_
    · have := heap_setCell_same (h1.var (w3.heap.size, oS s) (.head _)) (.int .u8 (flipByte s[q] r)) (o := q)
      rw [this, oS]
      have hg : s.toList.getD (b / 8) 0 = s[q] := by rw [hq, List.getD_eq_getElem?_getD]; simp [hq64]
      unfold flipS
      rw [hg, hq, hr, bcells_set, List.setIfInBounds_toArray]
    · intro p hp
      simp only [List.mem_cons, List.not_mem_nil, or_false] at hp
      rw [hp]
      have := H3.out.lt (w1.heap.size, o42 sure) (.head _)
      simp at this ⊢; omega
  have HQ := Lib.hid (And.intro hq hr)
  clear hq hr hb512
  go_region
  change Exit.then _ _ Exit.normal _ ((w4.setCell ⟨w3.heap.size, q, none⟩ (.int .u8 (flipByte s[q] r))).drew)
  generalize (w4.setCell ⟨w3.heap.size, q, none⟩ (.int .u8 (flipByte s[q] r))).drew = w5 at *
  clear hx hfx hwq hwr hq0 hq64' hr8 hr0 hq1 hr1 hq2 hr2 hmi hmb hmi' hmb' hwn hwb
  go_wp2_with (first
    | ((with_reducible show wpList _ _ _ (Oper.mk _ _ _ _ _ (some _) :: _) _ _); refine wpList_guarded (by rfl) ?_)
    | (go_at_call 11; (with_reducible show Calls _ _ _ w5 _); refine (H5.out.read i).mono ?_; rintro e w6 ⟨rfl, h⟩; have H6 := Lib.hid (H5.out.quiet h); clear h; simp only [SF.out.r1])
    | ((with_reducible show wpList _ _ _ (Oper.mk _ (Op.alloc 33) _ _ _ _ :: _) _ _); refine wpList_allocA 33 rfl rfl (bcells zsec) zeroSec ?_)
    | ((with_reducible show wpList _ _ _ (Oper.mk _ (Op.store 33 (Operand.tmp 15) _) _ _ _ _ :: _) _ _); (with_reducible show wpList _ _ _ _ _ (World.alloc w6 _)); refine wpList_storeA 33 rfl _ _ rfl w6.heap.size 0 (bcells (flipS s b)) (by rfl) (by rfl) (th_fresh w6 _) (lenSec _) (bcells_one _) ?_; have H7 := Lib.hid (H6.out.fresh (flipS s b)); generalize hw7 : (w6.alloc (.cells (bcells zsec).toArray 33)).setCells w6.heap.size 0 (bcells (flipS s b)) = w7 at *; clear hw7)
    | ((with_reducible show wpList _ _ _ (Oper.mk _ (Op.load 33 (Operand.tmp 15)) _ _ _ _ :: _) _ _); (with_reducible show wpList _ _ _ _ _ w7); refine wpList_loadA 33 _ rfl _ rfl w6.heap.size (0) (by rfl) (bcells (flipS s b)) (H7.out.rd (.head _)) Try.underlying33 rfl (lenSec _) ?_)
    | ((with_reducible show wpList _ _ _ (Oper.mk _ (Op.load 33 (Operand.tmp 14)) _ _ _ _ :: _) _ _); (with_reducible show wpList _ _ _ _ _ w7); refine wpList_loadA 33 _ rfl _ rfl w3.heap.size (0) (by rfl) (bcells (flipS s b)) (H7.out.rd (.tail _ (.head _))) Try.underlying33 rfl (lenSec _) ?_)
    | ((with_reducible show wpList _ _ _ (Oper.mk _ (Op.binOp BinOp.neq 33 _ _ _) _ _ _ _ :: _) _ _); refine neB_same rfl _ _ rfl (flipS s b) (by rfl) (by rfl) ?_)
    | (go_at_call 24; (with_reducible show Calls _ _ _ w7 _); refine (H7.out.flip i b).mono ?_; rintro e w8 ⟨rfl, h⟩; rw [SF.out.d2] at h; rw [SF.out.f2]; have H8 := Lib.hid h; clear h)
    | (go_at_call 11; (with_reducible show Calls _ _ _ w8 _); refine (H8.out.read i).mono ?_; rintro e w9 ⟨rfl, h⟩; have H9 := Lib.hid (H8.out.quiet h); clear h; simp only [SF.out.r2])
    | ((with_reducible show wpList _ _ _ (Oper.mk _ (Op.store 33 (Operand.tmp 15) _) _ _ _ _ :: _) _ _); (with_reducible show wpList _ _ _ _ _ w9); refine wpList_storeA 33 rfl _ _ rfl w6.heap.size 0 (bcells s) (by rfl) (by rfl) (H9.out.th (.head _) s) (lenSec _) (bcells_one _) ?_; have H10 := Lib.hid (H9.out.restore s (by intro p hp; simp only [List.mem_cons, List.not_mem_nil, or_false] at hp; have h1 := H6.out.lt (w3.heap.size, oS (flipS s b)) (.head _); have h2 := H6.out.lt (w1.heap.size, o42 sure) (.tail _ (.head _)); rcases hp with rfl | rfl <;> simp at h1 h2 ⊢ <;> omega)); generalize hw10 : w9.setCells w6.heap.size 0 (bcells s) = w10 at *; clear hw10))
  have H11 := Lib.hid (H10.out.quiet ((Kp.refl _ w10).drew))
  refine wp_region_still_tail 12 (by kernel_rfl) (by kernel_rfl) ?_
  simp only [List.take_succ_cons, List.take_zero, List.drop_succ_cons, List.drop_zero]
  change wpStill _ _ w10.drew _ _ _
  still_step
  still_step
  still_step
  refine stillG_loadA 33 _ (by rfl) _ rfl w6.heap.size 0 (by rfl) (bcells s) (H11.out.rd (.head _)) Try.underlying33 rfl (lenSec _) ?_
  still_step
  still_step
  refine stillG_loadA 33 _ (by rfl) _ rfl w1.heap.size (i * 64) (by rfl) (bcells s) (sure_range (H11.out.var (w1.heap.size, o42 sure) (.tail _ (.tail _ (.head _)))) i s SF.out.hs) Try.underlying33 rfl (lenSec _) ?_
  refine stillG_neS (by rfl) _ _ rfl s s (by rfl) (by rfl) ?_
  simp only [decide_true, Bool.not_true]
  still_step
  still_step
  still_step
  still_step
  refine wpStill_nil ?_
  change wpList _ _ _ _ _ w10.drew
  generalize w10.drew = w11 at *
  go_wp2_with (first
    | ((with_reducible show wpList _ _ _ (Oper.mk _ _ _ _ _ (some _) :: _) _ _); refine wpList_guarded (by rfl) ?_)
    | (go_at_call 25; (with_reducible show Calls _ _ _ w11 _); refine (H11.out.rot i).mono ?_; rintro e w12 ⟨rfl, h⟩; rw [SF.out.d3] at h; rw [SF.out.c3]; have H12 := Lib.hid h; clear h)
    | (go_at_call 14; (with_reducible show Calls _ _ _ w12 _); refine (H12.out.crash kv ks (HX.out.2.1.kept H12.out.kp) SF.out.sm).mono ?_; rintro e w13 ⟨bc, rfl, h, h'⟩; rw [SF.out.dc] at h; have H13 := Lib.hid h; clear h h'))
  have HLS := Lib.hid H1.out.2.2.1
  go_loopw [106] (fun kv wr => ∃ k : Nat, kv = .int .i64 k ∧ k ≤ 16 ∧ San w wr bc C [(w6.heap.size, oS s), (w3.heap.size, oS (flipS s b)), (w1.heap.size, o42 sure)]) (fun kv _ => 16 - (intOf kv).toNat)
  case atStart => exact ⟨0, rfl, by omega, H13.out⟩
  case round =>
    obtain ⟨k, rfl, hk, hS⟩ := hrel
    by_cases hlt : k < 16
    · obtain ⟨t, ht⟩ : ∃ t, sure[k]? = some t := ⟨_, List.getElem?_eq_getElem (by rw [HLS.out]; exact hlt)⟩
      have hrd := SF.out.rd k t hlt ht
      have hk0 : (0 : Int) ≤ (k : Int) := by omega
      have hk16 : (k : Int) < 16 := by omega
      have HT := Lib.hid ht
      clear ht hk
      by_cases hki : k = i
      · rw [if_pos hki] at hrd
        have hkb : ((k : Int) == (i : Int)) = true := by simp [hki]
        have hkb' : ((k : Int) != (i : Int)) = false := by simp [hki]
        have HZ := Lib.hid (And.intro hS (And.intro hlt hrd))
        clear hS hlt hrd hki
        go_wp2_with (first
        | ((with_reducible show wpList _ _ _ (Oper.mk _ _ _ _ _ (some _) :: _) _ _); refine wpList_guarded (by rfl) ?_)
        | (go_at_call 11; (with_reducible show Calls _ _ _ wr _); refine (HZ.out.1.read k).mono ?_; rintro e wa ⟨rfl, h⟩; have HA := Lib.hid (HZ.out.1.quiet h); clear h; simp only [HZ.out.2.2])
        | ((with_reducible show wpList _ _ _ (Oper.mk _ (Op.alloc 33) _ _ _ _ :: _) _ _); refine wpList_allocA 33 rfl rfl (bcells zsec) zeroSec ?_)
        | ((with_reducible show wpList _ _ _ (Oper.mk _ (Op.store 33 (Operand.tmp 19) _) _ _ _ _ :: _) _ _); (with_reducible show wpList _ _ _ _ _ (World.alloc wa _)); refine wpList_storeA 33 rfl _ _ rfl wa.heap.size 0 (bcells (zsec)) (by rfl) (by rfl) (th_fresh wa _) (lenSec _) (bcells_one _) ?_; have HB := Lib.hid (HA.out.fresh (zsec)); generalize hwb : (wa.alloc (.cells (bcells zsec).toArray 33)).setCells wa.heap.size 0 (bcells (zsec)) = wb at *; clear hwb))
        have HC := Lib.hid (HB.out.quiet ((Kp.refl _ wb).drew))
        refine wp_region_still_tail 22 (by kernel_rfl) (by kernel_rfl) ?_
        simp only [List.take_succ_cons, List.take_zero, List.drop_succ_cons, List.drop_zero]
        change wpStill _ _ wb.drew _ _ _
        still_step
        still_step
        still_step
        still_step
        still_step
        still_step
        still_step
        still_step
        still_step
        still_step
        still_step
        still_step
        apply stillG_skip
        case hw => rfl
        simp only [Act.put, List.setIfInBounds_toArray, List.set_cons_zero, List.set_cons_succ]
        apply stillG_skip
        case hw => rfl
        simp only [Act.put, List.setIfInBounds_toArray, List.set_cons_zero, List.set_cons_succ]
        apply stillG_skip
        case hw => rfl
        simp only [Act.put, List.setIfInBounds_toArray, List.set_cons_zero, List.set_cons_succ]
        apply stillG_skip
        case hw => rfl
        simp only [Act.put, List.setIfInBounds_toArray, List.set_cons_zero, List.set_cons_succ]
        apply stillG_skip
        case hw => rfl
        simp only [Act.put, List.setIfInBounds_toArray, List.set_cons_zero, List.set_cons_succ]
        apply stillG_skip
        case hw => rfl
        simp only [Act.put, List.setIfInBounds_toArray, List.set_cons_zero, List.set_cons_succ]
        apply stillG_skip
        case hw => rfl
        simp only [Act.put, List.setIfInBounds_toArray, List.set_cons_zero, List.set_cons_succ]
        apply stillG_skip
        case hw => rfl
        simp only [Act.put, List.setIfInBounds_toArray, List.set_cons_zero, List.set_cons_succ]
        apply stillG_skip
        case hw => rfl
        simp only [Act.put, List.setIfInBounds_toArray, List.set_cons_zero, List.set_cons_succ]
        apply stillG_value (.bool false)
        case hw => rfl
        case hr => rfl
        simp only [Act.put, List.setIfInBounds_toArray, List.set_cons_zero, List.set_cons_succ]
        apply wpStill_nil
        change wpList _ _ _ _ _ wb.drew
        generalize wb.drew = wc at *
        go_wp2
        go_roundw
        case rel => exact ⟨k + 1, by simp, HZ.out.2.1, HC.out.sub (fun p hp => .tail _ hp)⟩
        case measure => exact measure_next HZ.out.2.1 _ _ rfl rfl
      · rw [if_neg hki] at hrd
        have hkb : ((k : Int) == (i : Int)) = false := by simp; omega
        have hkb' : ((k : Int) != (i : Int)) = true := by simp; omega
        have HZ := Lib.hid (And.intro hS (And.intro hlt hrd))
        clear hS hlt hrd hki
        go_wp2_with (first
        | ((with_reducible show wpList _ _ _ (Oper.mk _ _ _ _ _ (some _) :: _) _ _); refine wpList_guarded (by rfl) ?_)
        | (go_at_call 11; (with_reducible show Calls _ _ _ wr _); refine (HZ.out.1.read k).mono ?_; rintro e wa ⟨rfl, h⟩; have HA := Lib.hid (HZ.out.1.quiet h); clear h; simp only [HZ.out.2.2])
        | ((with_reducible show wpList _ _ _ (Oper.mk _ (Op.alloc 33) _ _ _ _ :: _) _ _); refine wpList_allocA 33 rfl rfl (bcells zsec) zeroSec ?_)
        | ((with_reducible show wpList _ _ _ (Oper.mk _ (Op.store 33 (Operand.tmp 19) _) _ _ _ _ :: _) _ _); (with_reducible show wpList _ _ _ _ _ (World.alloc wa _)); refine wpList_storeA 33 rfl _ _ rfl wa.heap.size 0 (bcells (t)) (by rfl) (by rfl) (th_fresh wa _) (lenSec _) (bcells_one _) ?_; have HB := Lib.hid (HA.out.fresh (t)); generalize hwb : (wa.alloc (.cells (bcells zsec).toArray 33)).setCells wa.heap.size 0 (bcells (t)) = wb at *; clear hwb))
        have HC := Lib.hid (HB.out.quiet ((Kp.refl _ wb).drew))
        refine wp_region_still_tail 22 (by kernel_rfl) (by kernel_rfl) ?_
        simp only [List.take_succ_cons, List.take_zero, List.drop_succ_cons, List.drop_zero]
        change wpStill _ _ wb.drew _ _ _
        still_step
        still_step
        still_step
        still_step
        apply stillG_skip
        case hw => rfl
        simp only [Act.put, List.setIfInBounds_toArray, List.set_cons_zero, List.set_cons_succ]
        apply stillG_skip
        case hw => rfl
        simp only [Act.put, List.setIfInBounds_toArray, List.set_cons_zero, List.set_cons_succ]
        still_step
        still_step
        still_step
        still_step
        still_step
        still_step
        still_step
        still_step
        still_step
        refine stillG_loadA 33 _ (by rfl) _ rfl wa.heap.size 0 (by rfl) (bcells t) (HC.out.rd (.head _)) Try.underlying33 rfl (lenSec _) ?_
        still_step
        still_step
        refine stillG_loadA 33 _ (by rfl) _ rfl w1.heap.size (k * 64) (by rfl) (bcells t) (sure_range (HC.out.var (w1.heap.size, o42 sure) (.tail _ (.tail _ (.tail _ (.head _))))) k t HT.out) Try.underlying33 rfl (lenSec _) ?_
        refine stillG_neS (by rfl) _ _ rfl t t (by rfl) (by rfl) ?_
        simp only [decide_true, Bool.not_true]
        still_step
        still_step
        refine wpStill_nil ?_
        change wpList _ _ _ _ _ wb.drew
        generalize wb.drew = wc at *
        go_wp2
        go_roundw
        case rel => exact ⟨k + 1, by simp, HZ.out.2.1, HC.out.sub (fun p hp => .tail _ hp)⟩
        case measure => exact measure_next HZ.out.2.1 _ _ rfl rfl
    · have HZ := Lib.hid hS
      have hk0 : ¬ (k : Int) < 16 := by omega
      clear hS hlt hk
      go_wp2_with (first
        | ((with_reducible show wpList _ _ _ (Oper.mk _ _ _ _ _ (some _) :: _) _ _); refine wpList_guarded (by rfl) ?_)
        | ((with_reducible show wpList _ _ _ (Oper.mk _ (Op.load 33 (Operand.tmp 14)) _ _ _ _ :: _) _ _); (with_reducible show wpList _ _ _ _ _ wr); refine wpList_loadA 33 _ rfl _ rfl w3.heap.size (0) (by rfl) (bcells (flipS s b)) (HZ.out.rd (.tail _ (.head _))) Try.underlying33 rfl (lenSec _) ?_)
        | (go_at_call 22; (with_reducible show Calls _ _ _ wr _); refine (HZ.out.write i (flipS s b) SF.out.sc).mono ?_; rintro e wa ⟨rfl, h⟩; rw [SF.out.dw] at h; rw [SF.out.wr]; have HA := Lib.hid h; clear h)
        | (go_at_call 21; (with_reducible show Calls _ _ _ wa _); refine (HA.out.sync).mono ?_; rintro e wb ⟨rfl, h⟩; rw [SF.out.dy] at h; rw [SF.out.sy]; have HB := Lib.hid h; clear h)
        | (go_at_call 11; (with_reducible show Calls _ _ _ wb _); refine (HB.out.read i).mono ?_; rintro e wc ⟨rfl, h⟩; have HC := Lib.hid (HB.out.quiet h); clear h; simp only [SF.out.fin])
        | ((with_reducible show wpList _ _ _ (Oper.mk _ (Op.store 33 (Operand.tmp 15) _) _ _ _ _ :: _) _ _); (with_reducible show wpList _ _ _ _ _ wc); refine wpList_storeA 33 rfl _ _ rfl w6.heap.size 0 (bcells (flipS s b)) (by rfl) (by rfl) (HC.out.th (.head _) _) (lenSec _) (bcells_one _) ?_; have HD := Lib.hid (HC.out.restore (flipS s b) (by intro p hp; simp only [List.mem_cons, List.not_mem_nil, or_false] at hp; have h1 := H6.out.lt (w3.heap.size, oS (flipS s b)) (.head _); have h2 := H6.out.lt (w1.heap.size, o42 sure) (.tail _ (.head _)); rcases hp with rfl | rfl <;> simp at h1 h2 ⊢ <;> omega)); generalize hwd : wc.setCells w6.heap.size 0 (bcells (flipS s b)) = wd at *; clear hwd)
        | (go_at_call 8; (with_reducible show Calls _ _ _ wd _); refine (sanity_c _).mono ?_; rintro e we ⟨rfl, h⟩; have HE := Lib.hid (HD.out.quiet h); clear h)
        | ((with_reducible show wpList _ _ _ (Oper.mk _ (Op.load 33 (Operand.tmp 14)) _ _ _ _ :: _) _ _); (with_reducible show wpList _ _ _ _ _ we); refine wpList_loadA 33 _ rfl _ rfl w3.heap.size (0) (by rfl) (bcells (flipS s b)) (HE.out.rd (.tail _ (.head _))) Try.underlying33 rfl (lenSec _) ?_)
        | ((with_reducible show wpList _ _ _ (Oper.mk _ (Op.load 33 (Operand.tmp 15)) _ _ _ _ :: _) _ _); (with_reducible show wpList _ _ _ _ _ we); refine wpList_loadA 33 _ rfl _ rfl w6.heap.size (0) (by rfl) (bcells (flipS s b)) (HE.out.rd (.head _)) Try.underlying33 rfl (lenSec _) ?_)
        | ((with_reducible show wpList _ _ _ (Oper.mk _ (Op.binOp BinOp.eql 33 _ _ _) _ _ _ _ :: _) _ _); refine eqB_same rfl _ _ rfl (flipS s b) (by rfl) (by rfl) ?_))
      go_ret
      exact ⟨rfl, HE.out.kp⟩

end Go.Proofs.Ytopeelclhpjngaa
