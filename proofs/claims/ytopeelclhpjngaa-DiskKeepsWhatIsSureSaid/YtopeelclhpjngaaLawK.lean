/- 'written': the disk, what is sure and what is open behind writes. -/
import Derived.Test.YtopeelclhpjngaaLawJ
import Derived.Test.YtopeelclhpjngaaLawG
import Derived.Deep.CutRange
attribute [local go_sem ↓] Go.wp_at_zero Go.wp_at_succ
namespace Go.Proofs.Ytopeelclhpjngaa
set_option linter.unusedSimpArgs false
set_option linter.unusedVariables false
open Go Go.ChangeMaps Go.RowKit Go.Proofs

theorem zero42 (w : World) : (zeroValue 42).run Try.prog w = .ok (av (flatS z16)) w := by kernel_rfl
theorem zero44 (w : World) : (zeroValue 44).run Try.prog w = .ok (av n16) w := by kernel_rfl
theorem len42 (sure : List Sec) (h : sure.length = 16) : (Try.prog.info? 42).map (·.size) = some (flatS sure).length := by rw [length_flatS, h]; kernel_rfl
theorem len44 (vals : List Value) (h : vals.length = 16) : (Try.prog.info? 44).map (·.size) = some vals.length := by rw [h]; kernel_rfl
theorem flatS_oneC (sure : List Sec) : ∀ v ∈ flatS sure, v.oneCell' = true := by
  intro v hv
  obtain ⟨s, _, hs⟩ := List.mem_flatMap.1 hv
  exact bcells_one s v hs
theorem own_slice {w : World} {e size n : Nat} {v : Value} {xs : List Value} (h : w.ownsRow 0 e size v n xs) : ∃ p c, v = .slice p n c := by
  rcases h.2 with ⟨rfl, rfl⟩ | ⟨g, cap, cur, rfl, _⟩
  · exact ⟨_, _, rfl⟩
  · exact ⟨_, _, rfl⟩
theorem Rows.one {w : World} {vals : List Value} {L : List (List Sec)} (h : Rows w vals L) : ∀ v ∈ vals, v.oneCell' = true := by
  intro v hv
  obtain ⟨i, hi, hiv⟩ := List.getElem_of_mem hv
  obtain ⟨v', s, h1, h2, h3⟩ := h.val i (by rw [← h.lv]; exact hi)
  rw [List.getElem?_eq_getElem hi, hiv] at h1
  cases h1
  obtain ⟨p, c, rfl⟩ := own_slice h3
  rfl

section
variable {P : Program} {md : Region.Mode} {ops : Array Oper} {Q : Exit → Act → World → Prop} {S : World → Prop} {fuel : Nat} {listed : Array Bool} {a : Act} {w : World}
theorem wpOp_plain {i : Nat} {o : Oper} {K : Act → World → Prop} (hi : ops[i]? = some o) (hg : o.guard = none) (h : Oper.wp P o a w K Q) : wpOp P ops Q i K a w := by
  unfold wpOp
  rw [hi]
  simp only
  rw [if_pos (by simp [Region.wanted, hg])]
  exact .inl h
theorem wpOp_loadA {i : Nat} {o : Oper} {K : Act → World → Prop} (T : TypeId) (d : TypeDesc) (x : Operand) (b o' : Nat) (cs : List Value) (hi : ops[i]? = some o) (hg : o.guard = none) (ho : o.op = .load T x) (hx : a.eval x = .pointer (some ⟨b, o', none⟩))
    (hc : w.rangeAt b o' cs) (hu : P.underlying T = some d) (hd : d.isRow = true) (hs : (P.info? T).map (·.size) = some cs.length) (h : K (a.put o.dst (av cs)) w) : wpOp P ops Q i K a w := by
  refine wpOp_value (av cs) w hi hg ?_ h
  unfold execOp
  simp only [ho, hx, Instr.loadAt, Instr.sureAddr, Sem.run_bind, Sem.run_pure, Result.andThen_ok, run_loadVar_mid w b o' T cs d hc hu hd hs]
  rfl
theorem wpOp_buildOne {i : Nat} {o : Oper} {K : Act → World → Prop} (T E : TypeId) (cs zs : List Value) (by_ : Nat) (x : Operand) (hi : ops[i]? = some o) (hg : o.guard = none) (ho : o.op = .buildSlice T 1 #[(0, x)]) (hx : a.eval x = av cs)
    (hu : P.underlying T = some (.slice E)) (hE : (P.info? E).map (fun i => (i.zero, i.size, i.bytes)) = some (some (av zs), cs.length, by_)) (hz : zs.length = cs.length) (hsm : cs.length ≤ 16777216) (hpos : 0 < cs.length)
    (h : K (a.put o.dst (.slice (some ⟨w.heap.size, 0, none⟩) 1 1)) (w.alloc (.cells cs.toArray E))) : wpOp P ops Q i K a w := by
  refine wpOp_value _ _ hi hg ?_ h
  unfold execOp
  simp only [ho, List.map_toArray, List.map_cons, List.map_nil, hx, Sem.run_bind, run_buildSlice_one cs zs by_ hu hE hz hsm hpos w, Result.andThen_ok, Sem.run_pure]
end

section
variable {md : Region.Mode} {ops : Array Oper} {Q : Exit → Act → World → Prop} {S : World → Prop} {fuel : Nat} {listed : Array Bool} {a : Act} {w : World}
theorem wpOp_appSec {i : Nat} {o : Oper} {K : Act → World → Prop} (s x : Operand) (hi : ops[i]? = some o) (hg : o.guard = none) (ho : o.op = .call { callee := .builtin .append, args := #[s, x], argTypes := #[43, 43] })
    (v : Value) (t : List Sec) (sec : Sec) (B : Nat) (hs : a.eval s = v) (hown : w.ownsRow 0 33 64 v t.length (flatS t)) (hx : a.eval x = .slice (some ⟨B, 0, none⟩) 1 1) (hB : w.heap[B]? = some (.cells (bcells sec).toArray 33 (0, 0))) (hsm : t.length < 1000)
    (h : ∀ g cap w', w'.ownsRow 0 33 64 (.slice (some ⟨g, 0, none⟩) (t.length + 1) cap) (t.length + 1) (flatS t ++ bcells sec) → w.grownBy w' v.ownBlock → (v.ownBlock = some g ∨ g = w.heap.size) → g < w'.heap.size → K (a.put o.dst (.slice (some ⟨g, 0, none⟩) (t.length + 1) cap)) w') : wpOp Try.prog ops Q i K a w := by
  obtain ⟨i0, hi0, hz0, hz1, hz2⟩ := info_parts bytesSec
  refine wpOp_plain hi hg (wp_append_lies w s x 43 ho 0 33 i0 _ 64 64 Try.underlying43 hi0 hz0 hz1 hz2 rfl (by omega) v t.length (flatS t) hs hown ⟨B, 0, none⟩ 1 1 (bcells sec) hx (by simp) (World.news_of_block hB) (bcells_one sec) (by omega) (by unfold maxLen; omega) (by omega) (by omega) w.heap.size rfl h)
end

/-- Three results: a slot, and two variables of many cells. -/
theorem results_tcc {fn : Func} {t u v : Tmp} {T U : TypeId} (h : fn.results = #[.tmp t, .cell u T, .cell v U]) (tmps : Array Value) {P : Program} (w : World) (g g' : Nat) (hu : tmps.getD u undef = .pointer (some ⟨g, 0, none⟩)) (hv : tmps.getD v undef = .pointer (some ⟨g', 0, none⟩)) (x y : Value)
    (hl : (loadVar T ⟨g, 0, none⟩).run P w = .ok x w) (hl' : (loadVar U ⟨g', 0, none⟩).run P w = .ok y w) : (results fn tmps).run P w = .ok (.tuple #[tmps.getD t undef, x, y]) w := by
  have hu' : tmps[u]?.getD undef = .pointer (some ⟨g, 0, none⟩) := by simpa using hu
  have hv' : tmps[v]?.getD undef = .pointer (some ⟨g', 0, none⟩) := by simpa using hv
  simp [results, h, hu', hv', asAddr, hl, hl']

theorem at_le {D : Dsk} {m : Nat} (h : ∀ p ∈ D.opn, p.2.length ≤ m) (i : Int) : (D.at i).length ≤ m := by
  unfold Dsk.at
  cases hf : D.opn.find? (fun x => x.1 == i) with
  | none => simp
  | some x => simpa using h x (List.mem_of_find?_eq_some hf)

def WrPost (wz : World) (n : Nat) (sy : Int) (e : Ending) (w' : World) : Prop :=
  ∃ b D sure vals L, e = .returned (.tuple #[.pointer (some ⟨b, 0, none⟩), av (flatS sure), av vals]) ∧ SanK wz w' b D (KR vals) ∧ Rows w' vals L ∧ WInv n D sure L ∧ ((n : Int) = sy → L = List.replicate 16 [])
/-- The loop of 'written' under way. -/
def WrAt (wz : World) (b r5 r6 r8 r9 : Nat) (sy : Int) (N : Nat) (i : Value) (w : World) : Prop :=
  ∃ (m : Nat) (D : Dsk) (sure : List Sec) (vals : List Value) (L : List (List Sec)), i = .int .i64 m ∧ m ≤ N ∧ WrM w r5 r6 r8 r9 sure vals L ∧ SanK wz w b D (KW r5 r6 r8 r9 vals) ∧ WInv m D sure L ∧ ((m : Int) = sy → L = List.replicate 16 [])
/-- Behind the append. -/
def AppAt (wz : World) (b r5 r6 r8 r9 : Nat) (D : Dsk) (sure : List Sec) (L : List (List Sec)) (w : World) : Prop :=
  ∃ vals, WrM w r5 r6 r8 r9 sure vals L ∧ SanK wz w b D (KW r5 r6 r8 r9 vals)
/-- The loop of the sync under way. -/
def SyAt (wz : World) (b r5 r6 r8 r9 : Nat) (D : Dsk) (sure : List Sec) (L : List (List Sec)) (i : Value) (w : World) : Prop :=
  ∃ (k : Nat) (sure' : List Sec) (vals : List Value) (L' : List (List Sec)), i = .int .i64 k ∧ k ≤ 16 ∧ WrM w r5 r6 r8 r9 sure' vals L' ∧ SanK wz w b D (KW r5 r6 r8 r9 vals) ∧ sure'.length = 16 ∧
    (∀ j, j < 16 → sure'.getD j zsec = if j < k then (syncS sure L).getD j zsec else sure.getD j zsec) ∧ (∀ j, j < 16 → L'.getD j [] = if j < k then [] else L.getD j [])

theorem sy_done {sure sure' : List Sec} {L L' : List (List Sec)} (h1 : sure'.length = 16) (h2 : sure.length = 16) (h3 : L.length = 16) (h4 : L'.length = 16) (hs : ∀ j, j < 16 → sure'.getD j zsec = if j < 16 then (syncS sure L).getD j zsec else sure.getD j zsec)
    (hL : ∀ j, j < 16 → L'.getD j [] = if j < 16 then [] else L.getD j []) : sure' = syncS sure L ∧ L' = List.replicate 16 [] := by
  have hl : (syncS sure L).length = 16 := by simp [syncS, h2, h3]
  constructor
  · apply List.ext_getElem (by rw [h1, hl])
    intro j hj hj'
    have := hs j (by omega)
    rw [if_pos (by omega)] at this
    simpa [List.getD_eq_getElem?_getD, hj, hj'] using this
  · apply List.ext_getElem (by rw [h4]; simp)
    intro j hj hj'
    have := hL j (by omega)
    rw [if_pos (by omega), List.getD_eq_getElem?_getD, List.getElem?_eq_getElem hj, Option.getD_some] at this
    rw [this, List.getElem_replicate]

theorem sy_skip {m : Nat} {D : Dsk} {sure sure' : List Sec} {L L' : List (List Sec)} (hI : WInv m D sure L) {k : Nat} (hk : k < 16) (hsu : ∀ j, j < 16 → sure'.getD j zsec = if j < k then (syncS sure L).getD j zsec else sure.getD j zsec)
    (hLL : ∀ j, j < 16 → L'.getD j [] = if j < k then [] else L.getD j []) (ht : L'.getD k [] = []) :
    (∀ j, j < 16 → sure'.getD j zsec = if j < k + 1 then (syncS sure L).getD j zsec else sure.getD j zsec) ∧ (∀ j, j < 16 → L'.getD j [] = if j < k + 1 then [] else L.getD j []) := by
  have hLk := hLL k hk
  rw [if_neg (by omega), ht] at hLk
  refine ⟨fun j hj => ?_, fun j hj => ?_⟩
  · by_cases hjk : j = k
    · subst hjk
      rw [hsu j hj, if_neg (by omega), if_pos (by omega), syncS_get hI j hj, ← hLk]
      simp
    · rw [hsu j hj]
      by_cases h : j < k
      · rw [if_pos h, if_pos (by omega)]
      · rw [if_neg h, if_neg (by omega)]
  · by_cases hjk : j = k
    · subst hjk
      rw [ht, if_pos (by omega)]
    · rw [hLL j hj]
      by_cases h : j < k
      · rw [if_pos h, if_pos (by omega)]
      · rw [if_neg h, if_neg (by omega)]
theorem sy_step {m : Nat} {D : Dsk} {sure sure' : List Sec} {L L' : List (List Sec)} (hI : WInv m D sure L) {k : Nat} (hk : k < 16) (hsu : ∀ j, j < 16 → sure'.getD j zsec = if j < k then (syncS sure L).getD j zsec else sure.getD j zsec)
    (hLL : ∀ j, j < 16 → L'.getD j [] = if j < k then [] else L.getD j []) (t : List Sec) (ht : L'.getD k [] = t) (htn : t ≠ []) (hs16 : sure'.length = 16) (hL16 : L'.length = 16) :
    (∀ j, j < 16 → (sure'.set k (t.getLastD zsec)).getD j zsec = if j < k + 1 then (syncS sure L).getD j zsec else sure.getD j zsec) ∧ (∀ j, j < 16 → (L'.set k []).getD j [] = if j < k + 1 then [] else L.getD j []) := by
  have hLk := hLL k hk
  rw [if_neg (by omega), ht] at hLk
  refine ⟨fun j hj => ?_, fun j hj => ?_⟩
  · by_cases hjk : j = k
    · subst hjk
      rw [List.getD_eq_getElem?_getD, List.getElem?_set_self (by omega), if_pos (by omega), syncS_get hI j hj, ← hLk, if_pos htn]
      rfl
    · rw [List.getD_eq_getElem?_getD, List.getElem?_set_ne (Ne.symm hjk), ← List.getD_eq_getElem?_getD, hsu j hj]
      by_cases h : j < k
      · rw [if_pos h, if_pos (by omega)]
      · rw [if_neg h, if_neg (by omega)]
  · by_cases hjk : j = k
    · subst hjk
      rw [List.getD_eq_getElem?_getD, List.getElem?_set_self (by omega), if_pos (by omega)]
      rfl
    · rw [List.getD_eq_getElem?_getD, List.getElem?_set_ne (Ne.symm hjk), ← List.getD_eq_getElem?_getD, hLL j hj]
      by_cases h : j < k
      · rw [if_pos h, if_pos (by omega)]
      · rw [if_neg h, if_neg (by omega)]

theorem kp_fresh (w : World) (cs vs : List Value) (t : TypeId) : Kp (fun _ => False) w ((w.alloc (.cells cs.toArray t)).setCells w.heap.size 0 vs) :=
  Kp.setCells (fun h => absurd h (Nat.lt_irrefl _)) _ _ _ ((Kp.refl _ w).alloc _)
theorem heap_fresh (w : World) (cs vs : List Value) (t : TypeId) (h : cs.length = vs.length) : ((w.alloc (.cells cs.toArray t)).setCells w.heap.size 0 vs).heap[w.heap.size]? = some (.cells vs.toArray t (0, 0)) :=
  heap_fill (heap_alloc_new w _) h
theorem op_cells {w : World} {r : Nat} {x : RefOp} (hv : w.heap[r]? = some (oOp x)) :
    w.cell? ⟨r, 0, none⟩ = some (.int .i64 x.1) ∧ w.cell? ⟨r, 1, none⟩ = some (.int .i64 x.2.1) ∧ w.cell? ⟨r, 2, none⟩ = some (.int .i64 x.2.2) :=
  ⟨(cell_of hv _).trans rfl, (cell_of hv _).trans rfl, (cell_of hv _).trans rfl⟩

set_option maxRecDepth 100000 in
set_option maxHeartbeats 4000000 in
theorem written_c (w : World) (lv : Value) (xs : List RefOp) (sy : Int) (hxs : OpsIn w lv xs) (hl : xs.length ≤ 40) :
    Calls Try.prog 13 #[lv, .int .i64 sy] w (WrPost w xs.length sy) := by
  obtain ⟨pl, cl, rfl⟩ := hxs.len
  have HXS := Lib.hid hxs
  have HL := Lib.hid hl
  clear hxs hl
  go_enter Try.func13, Try.ntmps13
  go_wp2_with (first
    | ((with_reducible show wpList _ _ _ (Oper.mk _ (Op.alloc 42) _ _ _ _ :: _) _ _); refine wpList_allocA 42 rfl rfl (flatS z16) zero42 ?_)
    | ((with_reducible show wpList _ _ _ (Oper.mk _ (Op.alloc 44) _ _ _ _ :: _) _ _); refine wpList_allocA 44 rfl rfl n16 zero44 ?_)
    | (go_at_call 7; refine (SanK.new (wz := w) (K := fun k => k = w.heap.size ∨ k = w.heap.size + 1) (((Kp.refl _ w).alloc _).alloc _) (by rintro k (rfl | rfl) <;> simp <;> omega) 16 (by omega) (by omega)).mono ?_; rintro e w3 ⟨b, rfl, h1, h2⟩; have H3 := Lib.hid (And.intro h1 h2); clear h1 h2))
  have H4 := Lib.hid (WrM.start (Kp.refl _ w) H3.out.1 H3.out.2)
  clear H3
  try simp only [World.size_alloc]
  obtain ⟨r6, hr6⟩ : ∃ r, r = w.heap.size + 1 := ⟨_, rfl⟩
  obtain ⟨r5, hr5⟩ : ∃ r, r = w.heap.size := ⟨_, rfl⟩
  obtain ⟨r9, hr9⟩ : ∃ r, r = w3.heap.size + 1 := ⟨_, rfl⟩
  obtain ⟨r8, hr8⟩ : ∃ r, r = w3.heap.size := ⟨_, rfl⟩
  rw [← hr6, ← hr9] at H4 ⊢
  rw [← hr5, ← hr8] at H4 ⊢
  have HI0 := Lib.hid WInv.new
  change Hid (WrM ((w3.alloc (.cells (flatS z16).toArray 42)).alloc (.cells n16.toArray 44)) r5 r6 r8 r9 z16 n16 (List.replicate 16 []) ∧ SanK w ((w3.alloc (.cells (flatS z16).toArray 42)).alloc (.cells n16.toArray 44)) b (newDsk 16) (KW r5 r6 r8 r9 n16)) at H4
  generalize (w3.alloc (.cells (flatS z16).toArray 42)).alloc (.cells n16.toArray 44) = w4 at *
  have hRel : WrAt w b r5 r6 r8 r9 sy xs.length (.int .i64 (0 : Nat)) w4 := ⟨0, _, _, _, _, rfl, Nat.zero_le _, H4.out.1, H4.out.2, HI0.out, fun _ => rfl⟩
  have HRel := Lib.hid hRel
  clear hRel hr5 hr6 hr8 hr9
  go_loopw [19] (fun i wr => WrAt w b r5 r6 r8 r9 sy xs.length i wr) (fun i _ => xs.length - (intOf i).toNat)
  case atStart => exact HRel.out
  case round =>
    obtain ⟨m, D, sure, vals, L, rfl, hm, hM, hS, hI, hsy⟩ := hrel
    by_cases hlt : m < xs.length
    · obtain ⟨x, hx⟩ : ∃ x, xs[m]? = some x := ⟨_, List.getElem?_eq_getElem hlt⟩
      obtain ⟨g, o, c, hpl, hrange⟩ := (HXS.out.kept hS.kp).at m x hx
      injection hpl with hpl hlen0 hcl
      subst hpl
      subst hcl
      clear hlen0
      obtain ⟨K, A, B⟩ := x
      have hA1 := Int.lt_tmod_of_pos A (show (0 : Int) < 16 by omega)
      have hA2 := Int.tmod_lt_of_pos A (show (0 : Int) < 16 by omega)
      obtain ⟨q, hq⟩ : ∃ q, A.tmod 16 = q := ⟨_, rfl⟩
      rw [hq] at hA1 hA2
      obtain ⟨kk, hkk⟩ : ∃ kk, (q + 16).tmod 16 = kk := ⟨_, rfl⟩
      have hk1 : 0 ≤ kk := by rw [← hkk]; exact Int.tmod_nonneg _ (by omega)
      have hk2 : kk < 16 := by rw [← hkk]; exact Int.tmod_lt_of_pos _ (by omega)
      have hkk' : (q + 16) % 16 = kk := by rw [← hkk, Int.tmod_eq_emod_of_nonneg (by omega)]
      obtain ⟨kn, rfl⟩ := Int.eq_ofNat_of_zero_le hk1
      have hm0 : (0 : Int) ≤ (m : Int) := by omega
      have hm1 : (m : Int) < (xs.length : Int) := by omega
      have hm40 : (m : Int) < 40 := by have := HL.out; omega
      have HX := Lib.hid (And.intro hM (And.intro hS (And.intro hI (And.intro hsy (And.intro hlt hrange)))))
      have HKK := Lib.hid (show kn < 16 by omega)
      have HWN : Hid (wrap64 ((m : Int) + 1) = (m : Int) + 1) := Lib.hid (IntWalk.wrap64_in _ (by have := HL.out; omega))
      have HE := Lib.hid (hI.write kn HKK.out (filled B) ⟨B, rfl⟩)
      have HSM : Hid (∀ p ∈ D.opn, p.2.length < 1073741824) := Lib.hid (fun p hp => by have := hI.small p hp; have := HL.out; omega)
      clear hM hS hI hsy hrange hx hlt hm
      go_wp2_with (first
        | ((with_reducible show wpList _ _ _ (Oper.mk _ (Op.load 29 _) _ _ _ _ :: _) _ _); refine wpList_loadA 29 _ rfl _ rfl g (o + m * 3) (by rfl) (opCells (K, A, B)) HX.out.2.2.2.2.2 Try.underlying29 rfl (lenOp _) ?_)
        | ((with_reducible show wpList _ _ _ (Oper.mk _ (Op.alloc 29) _ _ _ _ :: _) _ _); refine wpList_allocA 29 rfl rfl (opCells (0, 0, 0)) zeroOp ?_)
        | ((with_reducible show wpList _ _ _ (Oper.mk _ (Op.store 29 _ _) _ _ _ _ :: _) _ _); refine wpList_storeA 29 rfl _ _ rfl wr.heap.size 0 (opCells (K, A, B)) (by rfl) (by rfl) (th_freshOp wr _) (lenOp _) (opCells_one _) ?_; have HA := Lib.hid (And.intro (HX.out.1.quiet (kp_fresh wr (opCells (0, 0, 0)) (opCells (K, A, B)) 29)) (And.intro (HX.out.2.1.quiet (kp_fresh wr (opCells (0, 0, 0)) (opCells (K, A, B)) 29)) (heap_fresh wr (opCells (0, 0, 0)) (opCells (K, A, B)) 29 rfl))); generalize hwa : (wr.alloc (.cells (opCells (0, 0, 0)).toArray 29)).setCells wr.heap.size 0 (opCells (K, A, B)) = wa at *; clear hwa; obtain ⟨hcK, hcA, hcB⟩ := op_cells (x := (K, A, B)) HA.out.2.2)
        | (go_at_call 23; (with_reducible show Calls _ _ _ wa _); refine (filled_c wa B).mono ?_; rintro e w5 ⟨rfl, h⟩; have H5 := Lib.hid (And.intro (HA.out.1.quiet h) (HA.out.2.1.quiet h)); clear h hcK hcA hcB)
        | ((with_reducible show wpList _ _ _ (Oper.mk _ (Op.alloc 33) _ _ _ _ :: _) _ _); refine wpList_allocA 33 rfl rfl (bcells zsec) zeroSec ?_)
        | ((with_reducible show wpList _ _ _ (Oper.mk _ (Op.store 33 (Operand.tmp 13) _) _ _ _ _ :: _) _ _); refine wpList_storeA 33 rfl _ _ rfl w5.heap.size 0 (bcells (filled B)) (by rfl) (by rfl) (th_fresh w5 _) (lenSec _) (bcells_one _) ?_; have H6 := Lib.hid (And.intro (H5.out.1.quiet (kp_fresh w5 (bcells zsec) (bcells (filled B)) 33)) (And.intro (H5.out.2.add ((kp_fresh w5 (bcells zsec) (bcells (filled B)) 33).mono (fun _ _ h => h.elim)) (fun k => KW r5 r6 r8 r9 vals k ∨ k = w5.heap.size) (fun k hk => hk.elim .inl (fun e => .inr (by rw [size_setCells, World.size_alloc]; omega)))) (heap_fresh w5 (bcells zsec) (bcells (filled B)) 33 (by simp)))); generalize hwb : (w5.alloc (.cells (bcells zsec).toArray 33)).setCells w5.heap.size 0 (bcells (filled B)) = w6 at *; clear hwb)
        | ((with_reducible show wpList _ _ _ (Oper.mk _ (Op.load 33 (Operand.tmp 13)) _ _ _ _ :: _) _ _); (with_reducible show wpList _ _ _ _ _ w6); refine wpList_loadA 33 _ rfl _ rfl w5.heap.size 0 (by rfl) (bcells (filled B)) (range_all H6.out.2.2) Try.underlying33 rfl (lenSec _) ?_)
        | (go_at_call 22; (with_reducible show Calls _ _ _ w6 _); refine (H6.out.2.1.write kn (filled B) HSM.out).mono ?_; rintro e w7 ⟨rfl, h1, h2⟩; rw [HE.out.1]; have H7 := Lib.hid (And.intro (H6.out.1.kept (fun k hk => h2 k (.inl hk))) (And.intro (h1.sub (K' := KW r5 r6 r8 r9 vals) (fun k hk => .inl hk)) ((h2 _ (.inr rfl)).trans H6.out.2.2))); clear h1 h2))
      have hlenL : (L.getD kn []).length < 1000 := by
        rw [← HX.out.2.2.1.ats kn HKK.out]
        exact Nat.lt_of_le_of_lt (at_le HX.out.2.2.1.small kn) (by have := HL.out; have := HX.out.2.2.2.2.1; omega)
      have HLL := Lib.hid hlenL
      clear hlenL
      go_cut [] from 41 to 48 (fun wx => AppAt w b r5 r6 r8 r9 (D.write kn (filled B)) sure (L.set kn (L.getD kn [] ++ [filled B])) wx)
      case first =>
        obtain ⟨v, t, hv, ht, hown⟩ := H7.out.1.rows.val kn HKK.out
        obtain ⟨p, c', rfl⟩ := own_slice hown
        have htL : L.getD kn [] = t := by rw [List.getD_eq_getElem?_getD, ht]; rfl
        have hcell : w7.cell? ⟨r9, kn, none⟩ = some (.slice p t.length c') := (cell_of H7.out.1.h9 kn).trans (by simpa using hv)
        have hr13 : w7.drew.rangeAt w5.heap.size 0 (bcells (filled B)) := range_all (w := w7.drew) H7.out.2.2
        have hr13' : (∀ o, (w7.alloc o).cell? ⟨r9, kn, none⟩ = some (.slice p t.length c')) := fun o => (cell_of ((Below.heap_alloc _ _ _ (by exact lt_of_heap H7.out.1.h9)).trans H7.out.1.h9) kn).trans (by simpa using hv)
        have hk0 : (0 : Int) ≤ (kn : Int) := by omega
        have HV := Lib.hid (And.intro hv (And.intro ht (And.intro hown (And.intro htL (show t.length < 1000 by rw [← htL]; exact HLL.out)))))
        have hown7 : (w7.alloc (.cells (bcells (filled B)).toArray 33)).drew.ownsRow 0 33 64 (.slice p t.length c') t.length (flatS t) := own_step hown (fun g hg => by
          obtain ⟨C, hC⟩ := own_lt hown hg
          exact Below.heap_alloc _ _ _ (lt_of_heap hC))
        have hB7 : (w7.alloc (.cells (bcells (filled B)).toArray 33)).drew.heap[w7.heap.size]? = some (.cells (bcells (filled B)).toArray 33 (0, 0)) := heap_alloc_new w7 _
        have h97 : (w7.alloc (.cells (bcells (filled B)).toArray 33)).drew.heap[r9]? = some (o44 vals) := (Below.heap_alloc _ _ _ (lt_of_heap H7.out.1.h9)).trans H7.out.1.h9
        clear hv ht hown htL
        refine wp_region_held (S := fun _ => True) (by kernel_rfl) ?_
        change wpAnyH _ _ _ _ _ _ _ _ w7.drew
        refine wpAnyH_take (i := 0) (v := (.int .i64 kn)) rfl (by kernel_rfl) (by kernel_rfl) (by kernel_rfl) (fun _ _ _ h => h) (Or.inl ⟨by rfl, fun w' hS => ?_⟩) trivial ?_
        · go_simp
        simp only [Act.put, List.getElem_toArray, List.getElem_cons_zero, List.getElem_cons_succ, List.setIfInBounds_toArray, List.set_cons_zero, List.set_cons_succ]
        refine wpAnyH_take (i := 1) (v := (.int .i64 kn)) rfl (by kernel_rfl) (by kernel_rfl) (by kernel_rfl) (fun _ _ _ h => h) (Or.inl ⟨by rfl, fun w' hS => ?_⟩) trivial ?_
        · go_simp
        simp only [Act.put, List.getElem_toArray, List.getElem_cons_zero, List.getElem_cons_succ, List.setIfInBounds_toArray, List.set_cons_zero, List.set_cons_succ]
        refine wpAnyH_take (i := 2) (v := (.pointer (some ⟨r9, kn, none⟩))) rfl (by kernel_rfl) (by kernel_rfl) (by kernel_rfl) (fun _ _ _ h => h) (Or.inl ⟨by rfl, fun w' hS => ?_⟩) trivial ?_
        · go_simp
        simp only [Act.put, List.getElem_toArray, List.getElem_cons_zero, List.getElem_cons_succ, List.setIfInBounds_toArray, List.set_cons_zero, List.set_cons_succ]
        refine anyH_two (i := 3) (j := 4) (by kernel_rfl) ?_ ?_
        · (refine wpOp_value (.slice p t.length c') w7.drew rfl rfl (by go_simp) ⟨trivial, ?_⟩)
          simp only [Act.put, List.getElem_toArray, List.getElem_cons_zero, List.getElem_cons_succ, List.setIfInBounds_toArray, List.set_cons_zero, List.set_cons_succ]
          refine anyH_one (i := 4) (by kernel_rfl) ?_
          (refine wpOp_loadA 33 _ _ w5.heap.size 0 (bcells (filled B)) rfl rfl rfl (by rfl) (by first | exact hr13 | exact World.rangeAt_alloc hr13 _) Try.underlying33 rfl (lenSec _) ⟨trivial, ?_⟩)
          simp only [Act.put, List.getElem_toArray, List.getElem_cons_zero, List.getElem_cons_succ, List.setIfInBounds_toArray, List.set_cons_zero, List.set_cons_succ]
          refine anyH_one (i := 5) (by kernel_rfl) ?_
          (refine wpOp_buildOne 43 33 (bcells (filled B)) (bcells zsec) 64 _ rfl rfl rfl (by rfl) Try.underlying43 (by rw [length_bcells]; exact info_sec) (by simp) (by simp) (by simp) ⟨trivial, ?_⟩)
          simp only [Act.put, List.getElem_toArray, List.getElem_cons_zero, List.getElem_cons_succ, List.setIfInBounds_toArray, List.set_cons_zero, List.set_cons_succ]
          change wpAnyH _ _ _ _ _ _ _ _ (w7.alloc (.cells (bcells (filled B)).toArray 33)).drew
          refine anyH_one (i := 6) (by kernel_rfl) ?_
          refine wpOp_appSec _ _ rfl rfl rfl (.slice p t.length c') t (filled B) w7.heap.size (by rfl) hown7 (by rfl) hB7 HV.out.2.2.2.2 (fun gg cap w8 hown8 hgrow hat hlt => ⟨trivial, ?_⟩)
          simp only [Act.put, List.getElem_toArray, List.getElem_cons_zero, List.getElem_cons_succ, List.setIfInBounds_toArray, List.set_cons_zero, List.set_cons_succ]
          have h98 : w8.heap[r9]? = some (o44 vals) := (hgrow.block r9 (by simp; have := lt_of_heap H7.out.1.h9; omega) (fun e => (H7.out.1.far ⟨_, List.mem_of_getElem? HV.out.1, e.symm⟩).2.2.2 rfl)).trans h97
          have hc8 : w8.cell? ⟨r9, kn, none⟩ = some (.slice p t.length c') := (cell_of h98 kn).trans (by simpa using HV.out.1)
          have hf8 : w8.frozen? ⟨r9, kn, none⟩ = false := free_of h98 kn
          refine anyH_one (i := 7) (by kernel_rfl) ?_
          refine wpOp_value (.pointer (some ⟨r9, kn, none⟩)) w8 rfl rfl (by go_simp) ⟨trivial, ?_⟩
          simp only [Act.put, List.getElem_toArray, List.getElem_cons_zero, List.getElem_cons_succ, List.setIfInBounds_toArray, List.set_cons_zero, List.set_cons_succ]
          refine anyH_one (i := 8) (by kernel_rfl) ?_
          refine wpOp_skip (w8.setCell ⟨r9, kn, none⟩ (.slice (some ⟨gg, 0, none⟩) (t.length + 1) cap)) rfl rfl (by go_simp) ⟨trivial, ?_⟩
          simp only [Act.put, List.getElem_toArray, List.getElem_cons_zero, List.getElem_cons_succ, List.setIfInBounds_toArray, List.set_cons_zero, List.set_cons_succ]
          refine wpAnyH_done (by kernel_rfl) ?_ _
          have hap := wr_append H7.out.1 H7.out.2.1 kn HKK.out _ HV.out.1 t (filled B) w8 gg cap ((((Kp.refl _ w7).alloc _).drew).grown hgrow (fun k hk _ => hk)) hown8 (hat.imp id (fun e => by rw [e]; simp)) hlt
          have HAP : Hid (AppAt w b r5 r6 r8 r9 (D.write kn (filled B)) sure (L.set kn (L.getD kn [] ++ [filled B])) (w8.setCell ⟨r9, kn, none⟩ (.slice (some ⟨gg, 0, none⟩) (t.length + 1) cap))) := Lib.hid (by rw [HV.out.2.2.2.1]; exact ⟨_, hap.1, hap.2⟩)
          clear hap
          go_wp2_with fail
          go_meet
          case rel => exact HAP.out
        · (refine wpOp_loadA 33 _ _ w5.heap.size 0 (bcells (filled B)) rfl rfl rfl (by rfl) (by first | exact hr13 | exact World.rangeAt_alloc hr13 _) Try.underlying33 rfl (lenSec _) ⟨trivial, ?_⟩)
          simp only [Act.put, List.getElem_toArray, List.getElem_cons_zero, List.getElem_cons_succ, List.setIfInBounds_toArray, List.set_cons_zero, List.set_cons_succ]
          refine anyH_two (i := 3) (j := 5) (by kernel_rfl) ?_ ?_
          · (refine wpOp_value (.slice p t.length c') w7.drew rfl rfl (by go_simp) ⟨trivial, ?_⟩)
            simp only [Act.put, List.getElem_toArray, List.getElem_cons_zero, List.getElem_cons_succ, List.setIfInBounds_toArray, List.set_cons_zero, List.set_cons_succ]
            refine anyH_one (i := 5) (by kernel_rfl) ?_
            (refine wpOp_buildOne 43 33 (bcells (filled B)) (bcells zsec) 64 _ rfl rfl rfl (by rfl) Try.underlying43 (by rw [length_bcells]; exact info_sec) (by simp) (by simp) (by simp) ⟨trivial, ?_⟩)
            simp only [Act.put, List.getElem_toArray, List.getElem_cons_zero, List.getElem_cons_succ, List.setIfInBounds_toArray, List.set_cons_zero, List.set_cons_succ]
            change wpAnyH _ _ _ _ _ _ _ _ (w7.alloc (.cells (bcells (filled B)).toArray 33)).drew
            refine anyH_one (i := 6) (by kernel_rfl) ?_
            refine wpOp_appSec _ _ rfl rfl rfl (.slice p t.length c') t (filled B) w7.heap.size (by rfl) hown7 (by rfl) hB7 HV.out.2.2.2.2 (fun gg cap w8 hown8 hgrow hat hlt => ⟨trivial, ?_⟩)
            simp only [Act.put, List.getElem_toArray, List.getElem_cons_zero, List.getElem_cons_succ, List.setIfInBounds_toArray, List.set_cons_zero, List.set_cons_succ]
            have h98 : w8.heap[r9]? = some (o44 vals) := (hgrow.block r9 (by simp; have := lt_of_heap H7.out.1.h9; omega) (fun e => (H7.out.1.far ⟨_, List.mem_of_getElem? HV.out.1, e.symm⟩).2.2.2 rfl)).trans h97
            have hc8 : w8.cell? ⟨r9, kn, none⟩ = some (.slice p t.length c') := (cell_of h98 kn).trans (by simpa using HV.out.1)
            have hf8 : w8.frozen? ⟨r9, kn, none⟩ = false := free_of h98 kn
            refine anyH_one (i := 7) (by kernel_rfl) ?_
            refine wpOp_value (.pointer (some ⟨r9, kn, none⟩)) w8 rfl rfl (by go_simp) ⟨trivial, ?_⟩
            simp only [Act.put, List.getElem_toArray, List.getElem_cons_zero, List.getElem_cons_succ, List.setIfInBounds_toArray, List.set_cons_zero, List.set_cons_succ]
            refine anyH_one (i := 8) (by kernel_rfl) ?_
            refine wpOp_skip (w8.setCell ⟨r9, kn, none⟩ (.slice (some ⟨gg, 0, none⟩) (t.length + 1) cap)) rfl rfl (by go_simp) ⟨trivial, ?_⟩
            simp only [Act.put, List.getElem_toArray, List.getElem_cons_zero, List.getElem_cons_succ, List.setIfInBounds_toArray, List.set_cons_zero, List.set_cons_succ]
            refine wpAnyH_done (by kernel_rfl) ?_ _
            have hap := wr_append H7.out.1 H7.out.2.1 kn HKK.out _ HV.out.1 t (filled B) w8 gg cap ((((Kp.refl _ w7).alloc _).drew).grown hgrow (fun k hk _ => hk)) hown8 (hat.imp id (fun e => by rw [e]; simp)) hlt
            have HAP : Hid (AppAt w b r5 r6 r8 r9 (D.write kn (filled B)) sure (L.set kn (L.getD kn [] ++ [filled B])) (w8.setCell ⟨r9, kn, none⟩ (.slice (some ⟨gg, 0, none⟩) (t.length + 1) cap))) := Lib.hid (by rw [HV.out.2.2.2.1]; exact ⟨_, hap.1, hap.2⟩)
            clear hap
            go_wp2_with fail
            go_meet
            case rel => exact HAP.out
          · (refine wpOp_buildOne 43 33 (bcells (filled B)) (bcells zsec) 64 _ rfl rfl rfl (by rfl) Try.underlying43 (by rw [length_bcells]; exact info_sec) (by simp) (by simp) (by simp) ⟨trivial, ?_⟩)
            simp only [Act.put, List.getElem_toArray, List.getElem_cons_zero, List.getElem_cons_succ, List.setIfInBounds_toArray, List.set_cons_zero, List.set_cons_succ]
            refine anyH_one (i := 3) (by kernel_rfl) ?_
            (refine wpOp_value (.slice p t.length c') (w7.alloc (.cells (bcells (filled B)).toArray 33)).drew rfl rfl (by have := hr13'; go_simp) ⟨trivial, ?_⟩)
            simp only [Act.put, List.getElem_toArray, List.getElem_cons_zero, List.getElem_cons_succ, List.setIfInBounds_toArray, List.set_cons_zero, List.set_cons_succ]
            change wpAnyH _ _ _ _ _ _ _ _ (w7.alloc (.cells (bcells (filled B)).toArray 33)).drew
            refine anyH_one (i := 6) (by kernel_rfl) ?_
            refine wpOp_appSec _ _ rfl rfl rfl (.slice p t.length c') t (filled B) w7.heap.size (by rfl) hown7 (by rfl) hB7 HV.out.2.2.2.2 (fun gg cap w8 hown8 hgrow hat hlt => ⟨trivial, ?_⟩)
            simp only [Act.put, List.getElem_toArray, List.getElem_cons_zero, List.getElem_cons_succ, List.setIfInBounds_toArray, List.set_cons_zero, List.set_cons_succ]
            have h98 : w8.heap[r9]? = some (o44 vals) := (hgrow.block r9 (by simp; have := lt_of_heap H7.out.1.h9; omega) (fun e => (H7.out.1.far ⟨_, List.mem_of_getElem? HV.out.1, e.symm⟩).2.2.2 rfl)).trans h97
            have hc8 : w8.cell? ⟨r9, kn, none⟩ = some (.slice p t.length c') := (cell_of h98 kn).trans (by simpa using HV.out.1)
            have hf8 : w8.frozen? ⟨r9, kn, none⟩ = false := free_of h98 kn
            refine anyH_one (i := 7) (by kernel_rfl) ?_
            refine wpOp_value (.pointer (some ⟨r9, kn, none⟩)) w8 rfl rfl (by go_simp) ⟨trivial, ?_⟩
            simp only [Act.put, List.getElem_toArray, List.getElem_cons_zero, List.getElem_cons_succ, List.setIfInBounds_toArray, List.set_cons_zero, List.set_cons_succ]
            refine anyH_one (i := 8) (by kernel_rfl) ?_
            refine wpOp_skip (w8.setCell ⟨r9, kn, none⟩ (.slice (some ⟨gg, 0, none⟩) (t.length + 1) cap)) rfl rfl (by go_simp) ⟨trivial, ?_⟩
            simp only [Act.put, List.getElem_toArray, List.getElem_cons_zero, List.getElem_cons_succ, List.setIfInBounds_toArray, List.set_cons_zero, List.set_cons_succ]
            refine wpAnyH_done (by kernel_rfl) ?_ _
            have hap := wr_append H7.out.1 H7.out.2.1 kn HKK.out _ HV.out.1 t (filled B) w8 gg cap ((((Kp.refl _ w7).alloc _).drew).grown hgrow (fun k hk _ => hk)) hown8 (hat.imp id (fun e => by rw [e]; simp)) hlt
            have HAP : Hid (AppAt w b r5 r6 r8 r9 (D.write kn (filled B)) sure (L.set kn (L.getD kn [] ++ [filled B])) (w8.setCell ⟨r9, kn, none⟩ (.slice (some ⟨gg, 0, none⟩) (t.length + 1) cap))) := Lib.hid (by rw [HV.out.2.2.2.1]; exact ⟨_, hap.1, hap.2⟩)
            clear hap
            go_wp2_with fail
            go_meet
            case rel => exact HAP.out
      case rest =>
        obtain ⟨vals', hM', hS'⟩ := hcut
        have hI' := HE.out.2
        clear HE H7 HSM HLL
        generalize D.write (kn : Int) (filled B) = D' at *
        generalize L.set kn (L.getD kn [] ++ [filled B]) = L' at *
        have HMS := Lib.hid (And.intro hM' (And.intro hS' hI'))
        clear hM' hS' hI'
        by_cases hq : (m : Int) + 1 = sy
        · have hb : ((m : Int) + 1 == sy) = true := by simpa using hq
          have HQ := Lib.hid hq
          clear hq
          go_wp2_with (go_at_call 21; refine (HMS.out.2.1.sync).mono ?_; rintro e w9 ⟨rfl, h1, h2⟩; rw [(HMS.out.2.2.sync).1]; have H9 := Lib.hid (And.intro (HMS.out.1.kept h2) h1); clear h1 h2)
          have hRel2 : SyAt w b r5 r6 r8 r9 D'.sync sure L' (.int .i64 (0 : Nat)) w9 := ⟨0, sure, vals', L', rfl, Nat.zero_le _, H9.out.1, H9.out.2, HMS.out.2.2.lS, fun j _ => by simp, fun j _ => by simp⟩
          have HRel2 := Lib.hid hRel2
          clear hRel2
          go_loopw [58] (fun i wr => SyAt w b r5 r6 r8 r9 D'.sync sure L' i wr) (fun i _ => 16 - (intOf i).toNat)
          case atStart => exact HRel2.out
          case round =>
            obtain ⟨k, sure', vals2, L2, rfl, hk, hM2, hS2, hs16, hsu, hLL⟩ := hrel
            by_cases hlt : k < 16
            · obtain ⟨v, t, hv, ht, hown⟩ := hM2.rows.val k hlt
              obtain ⟨p, c2, rfl⟩ := own_slice hown
              have hcell : wr.cell? ⟨r9, k, none⟩ = some (.slice p t.length c2) := (cell_of hM2.h9 k).trans (by simpa using hv)
              have hk0 : (0 : Int) ≤ (k : Int) := by omega
              have hk1 : (k : Int) < 16 := by omega
              have htL : L2.getD k [] = t := by rw [List.getD_eq_getElem?_getD, ht]; rfl
              have hLk := hLL k hlt
              rw [if_neg (Nat.lt_irrefl k), htL] at hLk
              have htlen : t.length < 1000 := by
                rw [hLk, ← HMS.out.2.2.ats k hlt]
                exact Nat.lt_of_le_of_lt (at_le HMS.out.2.2.small k) (by have := HL.out; have := HX.out.2.2.2.2.1; omega)
              by_cases htn : t = []
              · have hcell0 : wr.cell? ⟨r9, k, none⟩ = some (.slice p 0 c2) := by rw [hcell, htn]; rfl
                have HZ := Lib.hid (And.intro hM2 (And.intro hS2 (And.intro hs16 (And.intro hlt (sy_skip HMS.out.2.2 hlt hsu hLL (htL.trans htn))))))
                clear hM2 hS2 hs16 hsu hLL hv ht hown hcell htL hLk htn htlen hlt hk
                go_wp2
                go_roundw
                case rel => exact ⟨k + 1, sure', vals2, L2, by simp, HZ.out.2.2.2.1, HZ.out.1, HZ.out.2.1, HZ.out.2.2.1, HZ.out.2.2.2.2.1, HZ.out.2.2.2.2.2⟩
                case measure => exact measure_next HZ.out.2.2.2.1 _ _ rfl rfl
              · obtain ⟨qq, hqq⟩ : ∃ qq, t.length = qq + 1 := ⟨t.length - 1, by have := List.length_pos_iff.2 htn; omega⟩
                obtain ⟨gb, cap, hval, -, hgl⟩ := hown.form (by omega)
                injection hval with hp1 _ hp2
                subst hp1
                have hrow := row_sec hown qq (by omega)
                have hlast : t[qq] = t.getLastD zsec := by rw [List.getLastD_eq_getLast?, List.getLast?_eq_getElem?]; simp [hqq]
                rw [hlast] at hrow
                have HFL := Lib.hid (wr_flush hM2 hS2 hs16 k hlt (t.getLastD zsec))
                have HZ := Lib.hid (And.intro hM2 (And.intro hS2 (And.intro hs16 (And.intro hlt (sy_step HMS.out.2.2 hlt hsu hLL t htL htn hs16 hM2.rows.lL)))))
                have hcell1 : wr.cell? ⟨r9, k, none⟩ = some (.slice (some ⟨gb, 0, none⟩) (qq + 1) c2) := by rw [hcell, hqq]
                obtain ⟨s, hs⟩ : ∃ s, s = t.getLastD zsec := ⟨_, rfl⟩
                rw [← hs] at hrow HFL HZ
                have hq0 : (0 : Int) ≤ (qq : Int) := Int.natCast_nonneg _
                have hq1 : (qq : Int) < ((qq + 1 : Nat) : Int) := by omega
                have hq2 : (0 : Int) < ((qq + 1 : Nat) : Int) := by omega
                have hq3 : (qq : Int) < 1000 := by omega
                have hsum : wrap64 (qq : Int) = (qq : Int) := IntWalk.wrap64_in _ (by omega)
                have HROW := Lib.hid hrow
                clear hM2 hS2 hs16 hsu hLL hv ht hown hcell htL hLk htn htlen hlt hk hrow hlast hs hqq hgl hp2
                go_wp2_with (first
                  | ((with_reducible show wpList _ _ _ (Oper.mk _ (Op.load 33 _) _ _ _ _ :: _) _ _); refine wpList_loadA 33 _ rfl _ rfl gb (qq * 64) (by simp [Act.eval]) (bcells s) HROW.out Try.underlying33 rfl (lenSec _) ?_)
                  | ((with_reducible show wpList _ _ _ (Oper.mk _ (Op.store 33 _ _) _ _ _ _ :: _) _ _); refine wpList_storeA 33 rfl _ _ rfl r8 (k * 64) (bcells s) (by rfl) (by rfl) (there_of HZ.out.1.h8 (k * 64) _ (by rw [length_flatS, length_bcells, HZ.out.2.2.1]; have := HZ.out.2.2.2.1; omega)) (lenSec _) (bcells_one _) ?_; have hcell2 := (cell_of ((heap_setCells_ne (Ne.symm HZ.out.1.ne89.1) (bcells s) (k * 64) wr).trans HZ.out.1.h9) k).trans ((cell_of HZ.out.1.h9 k).symm.trans hcell1); have hfr2 := free_of ((heap_setCells_ne (Ne.symm HZ.out.1.ne89.1) (bcells s) (k * 64) wr).trans HZ.out.1.h9) k))
                go_roundw
                case rel => exact ⟨k + 1, _, _, _, by simp, HZ.out.2.2.2.1, HFL.out.1, HFL.out.2, by rw [List.length_set]; exact HZ.out.2.2.1, HZ.out.2.2.2.2.1, HZ.out.2.2.2.2.2⟩
                case measure => exact measure_next HZ.out.2.2.2.1 _ _ rfl rfl
            · have hk16 : k = 16 := by omega
              subst hk16
              obtain ⟨hd1, hd2⟩ := sy_done hs16 HMS.out.2.2.lS HMS.out.2.2.lL hM2.rows.lL hsu hLL
              have hI2 := HMS.out.2.2.sync.2
              rw [← hd1] at hI2
              subst hd2
              have HZ := Lib.hid (And.intro hM2 (And.intro hS2 hI2))
              clear hM2 hS2 hI2 hs16 hsu hLL hlt hk hd1
              go_wp2
              go_roundw
              case rel => exact ⟨m + 1, D'.sync, sure', vals2, _, by simp, HX.out.2.2.2.2.1, HZ.out.1, HZ.out.2.1, HZ.out.2.2, fun _ => rfl⟩
              case measure => exact measure_next HX.out.2.2.2.2.1 _ _ rfl rfl
        · have hb : ((m : Int) + 1 == sy) = false := by simpa using hq
          have HQ := Lib.hid hq
          clear hq
          go_wp2
          go_roundw
          case rel => exact ⟨m + 1, D', sure, vals', L', by simp, HX.out.2.2.2.2.1, HMS.out.1, HMS.out.2.1, HMS.out.2.2, fun h => absurd (by simpa using h) HQ.out⟩
          case measure => exact measure_next HX.out.2.2.2.2.1 _ _ rfl rfl
    · have hmn : m = xs.length := by omega
      subst hmn
      have HX := Lib.hid (And.intro hM (And.intro hS (And.intro hI hsy)))
      clear hM hS hI hsy hm hlt
      go_wp2
      have hS0 : wr.drew.rangeAt r8 0 (flatS sure) ∧ wr.drew.rangeAt r9 0 vals := ⟨range_all (w := wr.drew) HX.out.1.h8, range_all (w := wr.drew) HX.out.1.h9⟩
      refine wp_region_held (S := fun w' => w'.rangeAt r8 0 (flatS sure) ∧ w'.rangeAt r9 0 vals) (by kernel_rfl) ?_
      change wpAnyH _ _ _ _ _ _ _ _ wr.drew
      refine wpAnyH_take (i := 0) (v := (.pointer (some ⟨b, 0, none⟩))) rfl (by kernel_rfl) (by kernel_rfl) (by kernel_rfl) (fun _ _ _ h => h) (Or.inl ⟨by rfl, fun w' hS => ?_⟩) hS0 ?_
      · go_simp
      simp only [Act.put, List.getElem_toArray, List.getElem_cons_zero, List.getElem_cons_succ, List.setIfInBounds_toArray, List.set_cons_zero, List.set_cons_succ]
      refine wpAnyH_take (i := 1) (v := .agg (flatS sure).toArray) rfl (by kernel_rfl) (by kernel_rfl) (by kernel_rfl) (fun _ _ _ h => h) (yieldsIf_load_mid (by rfl) _ _ rfl r8 (0) (by rfl) (flatS sure) _ (fun w' hS => hS.1) Try.underlying42 rfl (len42 sure HX.out.2.2.1.lS)) hS0 ?_
      simp only [Act.put, List.getElem_toArray, List.getElem_cons_zero, List.getElem_cons_succ, List.setIfInBounds_toArray, List.set_cons_zero, List.set_cons_succ]
      refine wpAnyH_take (i := 2) (v := .agg vals.toArray) rfl (by kernel_rfl) (by kernel_rfl) (by kernel_rfl) (fun _ _ _ h => h) (yieldsIf_load_mid (by rfl) _ _ rfl r9 (0) (by rfl) vals _ (fun w' hS => hS.2) Try.underlying44 rfl (len44 vals HX.out.1.rows.lv)) hS0 ?_
      simp only [Act.put, List.getElem_toArray, List.getElem_cons_zero, List.getElem_cons_succ, List.setIfInBounds_toArray, List.set_cons_zero, List.set_cons_succ]
      refine wpAnyH_take (i := 3) (v := (.pointer (some ⟨b, 0, none⟩))) rfl (by kernel_rfl) (by kernel_rfl) (by kernel_rfl) (fun _ _ _ h => h) (Or.inl ⟨by rfl, fun w' hS => ?_⟩) hS0 ?_
      · go_simp
      simp only [Act.put, List.getElem_toArray, List.getElem_cons_zero, List.getElem_cons_succ, List.setIfInBounds_toArray, List.set_cons_zero, List.set_cons_succ]
      have hne := HX.out.1.ne89
      have hn58 := HX.out.1.n58
      have hn69 := HX.out.1.n69
      have k5 : (flatS z16).length = (flatS sure).length := by rw [length_flatS, length_flatS, HX.out.2.2.1.lS]; rfl
      have g5 : (wr.drew.setCells r5 0 (flatS sure)).heap[r5]? = some (o42 sure) := heap_fill (w := wr.drew) HX.out.1.h5 k5
      have g6 : (wr.drew.setCells r5 0 (flatS sure)).heap[r6]? = some (o44 n16) := (heap_setCells_ne (Ne.symm hne.2.2.2) _ _ _).trans HX.out.1.h6
      have g8 : (wr.drew.setCells r5 0 (flatS sure)).heap[r8]? = some (o42 sure) := (heap_setCells_ne (Ne.symm hn58) _ _ _).trans HX.out.1.h8
      have g9 : (wr.drew.setCells r5 0 (flatS sure)).heap[r9]? = some (o44 vals) := (heap_setCells_ne (Ne.symm hne.2.1) _ _ _).trans HX.out.1.h9
      have q5 : ((wr.drew.setCells r5 0 (flatS sure)).setCells r6 0 vals).heap[r5]? = some (o42 sure) := (heap_setCells_ne hne.2.2.2 _ _ _).trans g5
      have q6 : ((wr.drew.setCells r5 0 (flatS sure)).setCells r6 0 vals).heap[r6]? = some (o44 vals) := heap_fill g6 (by rw [length_n16, HX.out.1.rows.lv])
      have q8 : ((wr.drew.setCells r5 0 (flatS sure)).setCells r6 0 vals).heap[r8]? = some (o42 sure) := (heap_setCells_ne (Ne.symm hne.2.2.1) _ _ _).trans g8
      have q9 : ((wr.drew.setCells r5 0 (flatS sure)).setCells r6 0 vals).heap[r9]? = some (o44 vals) := (heap_setCells_ne (Ne.symm hn69) _ _ _).trans g9
      have hkk : Kp (KW r5 r6 r8 r9 vals) wr ((wr.drew.setCells r5 0 (flatS sure)).setCells r6 0 vals) :=
        Kp.setCells (fun _ => .inr (.inl rfl)) _ _ _ (Kp.setCells (fun _ => .inl rfl) _ _ _ ((Kp.refl _ wr).drew))
      have HEND : Hid (SanK w ((wr.drew.setCells r5 0 (flatS sure)).setCells r6 0 vals) b D (KR vals) ∧ Rows ((wr.drew.setCells r5 0 (flatS sure)).setCells r6 0 vals) vals L) :=
        Lib.hid ⟨HX.out.2.1.add hkk _ (fun k hk => .inl (.inr (.inr (.inr (.inr hk))))), HX.out.1.rows.kept (fun k hk => by
          have hf := HX.out.1.far hk
          exact (heap_setCells_ne hf.2.1 _ _ _).trans (heap_setCells_ne hf.1 _ _ _))⟩
      refine anyH_one (i := 4) (by kernel_rfl) ?_
      refine wpOp_storeA 42 _ _ r5 0 (flatS sure) rfl rfl rfl (by rfl) (by rfl) (there_all (w := wr.drew) HX.out.1.h5 k5.symm) (len42 sure HX.out.2.2.1.lS) (flatS_oneC _) ⟨⟨range_all g8, range_all g9⟩, ?_⟩
      simp only [Act.put, List.getElem_toArray, List.getElem_cons_zero, List.getElem_cons_succ, List.setIfInBounds_toArray, List.set_cons_zero, List.set_cons_succ]
      refine anyH_one (i := 5) (by kernel_rfl) ?_
      refine wpOp_storeA 44 _ _ r6 0 vals rfl rfl rfl (by rfl) (by rfl) (there_all g6 (by rw [length_n16, HX.out.1.rows.lv])) (len44 vals HX.out.1.rows.lv) HX.out.1.rows.one ⟨⟨range_all q8, range_all q9⟩, ?_⟩
      simp only [Act.put, List.getElem_toArray, List.getElem_cons_zero, List.getElem_cons_succ, List.setIfInBounds_toArray, List.set_cons_zero, List.set_cons_succ]
      refine wpAnyH_done (by kernel_rfl) ?_ _
      have HQ5 := Lib.hid (And.intro q5 q6)
      clear hkk hS0 hne hn58 hn69 k5 g5 g6 g8 g9 q5 q6 q8 q9
      generalize (wr.drew.setCells r5 0 (flatS sure)).setCells r6 0 vals = wf at *
      go_wp2
      refine bodyPost_ret (results_tcc rfl _ _ r5 r6 rfl rfl (av (flatS sure)) (av vals) (run_loadVar_at Try.underlying42 rfl _ _ _ (flatS sure) (len42 sure HX.out.2.2.1.lS) (range_all HQ5.out.1)) (run_loadVar_at Try.underlying44 rfl _ _ _ vals (len44 vals HX.out.1.rows.lv) (range_all HQ5.out.2))) rfl ⟨b, D, sure, vals, L, rfl, HEND.out.1, HEND.out.2, HX.out.2.2.1, HX.out.2.2.2⟩

end Go.Proofs.Ytopeelclhpjngaa
