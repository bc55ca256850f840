/- The contract of Crash. -/
import Derived.Test.YtopeelclhpjngaaDiskT
import Derived.Test.YtopeelclhpjngaaDiskG
import Derived.Test.YtopeelclhpjngaaDiskH
attribute [local go_sem ↓] Go.wp_at_zero Go.wp_at_succ
namespace Go.Proofs.Ytopeelclhpjngaa
set_option linter.unusedSimpArgs false
set_option linter.unusedVariables false
open Go Go.ChangeMaps Go.RowKit Go.Proofs

/-- 'copy' of elements of many cells, as many as there are. -/
theorem run_copy_many {P : Program} (w : World) (dT sT ty elem : TypeId) (b o dLen dCap : Nat) (a : Addr) (sLen sCap : Nat) (cs : List Value) (k n : Nat)
    (hu : P.underlying dT = some (.slice elem)) (hs : (P.info? elem).map (·.size) = some k) (hn : n = Nat.min sLen dLen) (hcs : cs.length = n * k)
    (hsrc : ∀ j v, cs[j]? = some v → w.cell? (a.add j) = some v) (hc : ∀ j, j < cs.length → (w.cell? ⟨b, o + j, none⟩).isSome = true) (hf : ∀ j, j < cs.length → w.frozen? ⟨b, o + j, none⟩ = false) (h1 : ∀ v ∈ cs, v.oneCell' = true) :
    (Builtin.copy_ #[dT, sT] ty #[.slice (some ⟨b, o, none⟩) dLen dCap, .slice (some a) sLen sCap]).run P w = .ok (goInt n) (w.setCells b o cs) := by
  have hl := run_loadCells_list (P := P) w a cs hsrc
  have hst := run_storeCells_cells (P := P) b o cs 0 w (by simpa using hc) (by simpa using hf) h1
  cases hq : P.info? elem with
  | none => simp [hq] at hs
  | some i =>
    have hi : i.size = k := by simpa [hq] using hs
    simp [Builtin.copy_, run_underlying hu, Builtin.lenOf, Builtin.firstCells, sizeOf, typeInfo, hq, hi, ← hn, ← hcs, hl, hst]

theorem wpList_copyA {P : Program} {w : World} {ops : Array Oper} {rest : List Oper} {o : Oper} {a : Act} {Q : Exit → Act → World → Prop} (hgd : o.guard = none) (d s : Operand) (dT sT : TypeId)
    (ho : o.op = .call { callee := .builtin .copy, args := #[d, s], argTypes := #[dT, sT] }) (elem : TypeId) (hu : P.underlying dT = some (.slice elem)) (k : Nat) (hsz : (P.info? elem).map (·.size) = some k)
    (b off dLen dCap : Nat) (ad : Addr) (sLen sCap : Nat) (hd : a.eval d = .slice (some ⟨b, off, none⟩) dLen dCap) (hs : a.eval s = .slice (some ad) sLen sCap) (cs : List Value) (n : Nat) (hn : n = Nat.min sLen dLen) (hcs : cs.length = n * k)
    (hsrc : ∀ j v, cs[j]? = some v → w.cell? (ad.add j) = some v) (hth : w.there b off cs.length) (h1 : ∀ v ∈ cs, v.oneCell' = true)
    (h : wpList P ops Q rest (a.put o.dst (goInt n)) (w.setCells b off cs)) : wpList P ops Q (o :: rest) a w := by
  refine wpList_plain hgd fun K hK => ?_
  have hrun := run_copy_many (P := P) w dT sT o.type elem b off dLen dCap ad sLen sCap cs k n hu hsz hn hcs hsrc (fun j hj => (hth j hj).1) (fun j hj => (hth j hj).2) h1
  unfold Oper.wp
  simp [execOp, ho, resolve, invoke, builtin, hd, hs, hrun, Result.andThen]
  exact hK _ _ h

/-- A row of numbers that came in. -/
def Ints (w : World) (v : Value) (xs : List Int) : Prop :=
  (xs = [] ∧ ∃ p c, v = .slice p 0 c) ∨ (xs ≠ [] ∧ ∃ g o c, v = .slice (some ⟨g, o, none⟩) xs.length c ∧ w.rangeAt g o (xs.map (Value.int .i64)))
theorem Ints.kept {w w' : World} {v : Value} {xs : List Int} (h : Ints w v xs) (hk : Kp (fun _ => False) w w') : Ints w' v xs := by
  rcases h with h | ⟨h0, g, o, c, h1, h2⟩
  · exact .inl h
  · refine .inr ⟨h0, g, o, c, h1, fun j u hu => ?_⟩
    have := h2 j u hu
    rw [← this]
    have hlt := World.block_lt_of_cell? _ _ this
    have hb := hk.block _ hlt (fun h => h)
    simp only [World.cell?, hb]

def keepX (ks : List Int) (n : Nat) : Int := ks.getD (n % ks.length) 0
def crashL (D : Dsk) (ks : List Int) : Nat → List Int → List (Sec × Bool) → List (Sec × Bool)
  | _, [], cells => cells
  | n, i :: r, cells => crashL D ks (n + 1) r (cells.set i.toNat (foundC (D.cells.getD i.toNat (zsec, false)) (D.at i) (keepX ks n)))
def Dsk.crash (D : Dsk) (ks : List Int) : Dsk := { newDsk D.cells.length with cells := crashL D ks 0 D.keys D.cells }

theorem length_crashL (D : Dsk) (ks : List Int) : ∀ (r : List Int) (n : Nat) (cells : List (Sec × Bool)), (crashL D ks n r cells).length = cells.length
  | [], _, _ => rfl
  | i :: r, n, cells => by rw [crashL, length_crashL]; simp
theorem crashL_snoc (D : Dsk) (ks : List Int) (i : Int) : ∀ (r : List Int) (n : Nat) (cells : List (Sec × Bool)), crashL D ks n (r ++ [i]) cells = (crashL D ks n r cells).set i.toNat (foundC (D.cells.getD i.toNat (zsec, false)) (D.at i) (keepX ks (n + r.length)))
  | [], _, _ => rfl
  | x :: r, n, cells => by
    rw [List.cons_append, crashL, crashL, crashL_snoc D ks i r (n + 1) _]
    simp only [List.length_cons]
    rw [show n + 1 + r.length = n + (r.length + 1) by omega]

theorem measure_next {L n : Nat} (h : n < L) (v v' : Value) (hv : v = .int .i64 ((n : Int) + 1)) (hv' : v' = .int .i64 (n : Int)) : L - (intOf v).toNat < L - (intOf v').toNat := by
  subst hv; subst hv'
  simp only [intOf]
  omega

/-- The loop of Crash under way: 'n' sectors are done. -/
def CrashAt (w : World) (b cb mb : Nat) (l : List Ent) (clock : Nat) (D : Dsk) (F : Nat → Prop) (ks : List Int) (kv : Value) (b' cb' mb' clock' : Nat) (F' : Nat → Prop) (base : Nat) (rv : Value) (i : Value) (wr : World) : Prop :=
  ∃ n : Nat, i = .int .i64 n ∧ n ≤ D.keys.length ∧ DskAt wr b cb mb l clock D F ∧ DskAt wr b' cb' mb' [] clock' { newDsk D.cells.length with cells := crashL D ks 0 (D.keys.take n) D.cells } F' ∧
    Ints wr kv ks ∧ wr.ownsRow base 3 1 rv D.keys.length (D.keys.map (Value.int .i64)) ∧ Kp (fun _ => False) w wr

set_option maxRecDepth 100000 in
set_option maxHeartbeats 4000000 in
theorem crash_c (w : World) (b : Nat) (D : Dsk) (F : Nat → Prop) (h : IsDsk w b D F) (kv : Value) (ks : List Int) (hks : Ints w kv ks) (hsm : ∀ p ∈ D.opn, p.2.length < 1073741824) :
    Calls Try.prog 14 #[.pointer (some ⟨b, 0, none⟩), kv] w fun e w' => ∃ b' F', e = .returned (.pointer (some ⟨b', 0, none⟩)) ∧ IsDsk w' b' (D.crash ks) F' ∧ (∀ k, F' k → w.heap.size ≤ k) ∧ Kp (fun _ => False) w w' := by
  obtain ⟨cb, mb, l, clock, hD⟩ := h
  have hc0 := (dsk_cells hD).1
  have hlen := hD.len
  have hpos := hD.pos
  have HD := Lib.hid hD
  have HKS := Lib.hid hks
  have HSM := Lib.hid hsm
  clear hD hks hsm
  go_enter Try.func14, Try.ntmps14
  go_wp2_with (first
    | (go_at_call 7; refine (new_yes _ D.cells.length hpos hlen).mono ?_; rintro e w' ⟨b', rfl, hI, hK⟩))
  obtain ⟨cb', mb', l', clock', hN⟩ := hI
  have hl' : l' = [] := by have := hN.ents; simpa [newDsk] using this
  subst hl'
  have hDN := HD.out.step (w' := w') (fun _ h => h) (fun k hk => hK.block k (HD.out.lt k hk) (fun h => h)) (fun k hk => Nat.lt_of_lt_of_le (HD.out.lt k hk) hK.size)
  have hnew : ∀ k, grow (fun _ => False) w w' k → w.heap.size ≤ k := by rintro k (h | h); exact h.elim; exact h.1
  obtain ⟨F', hF'⟩ : ∃ F', F' = grow (fun _ => False) w w' := ⟨_, rfl⟩
  rw [← hF'] at hN hnew
  have hne1 : b' ≠ cb := fun e => by have := HD.out.lt _ HD.out.fc; have := hnew _ hN.fb; omega
  have hKS' := HKS.out.kept hK
  have hcN := (dsk_cells hN).1
  have hcD := (dsk_cells hDN).1
  have hlN : (newDsk D.cells.length).cells.length = D.cells.length := by simp [newDsk]
  rw [hlN] at hcN
  have HN := Lib.hid (And.intro hN (And.intro hDN (And.intro hK (And.intro hnew hKS'))))
  have HDl := Lib.hid (And.intro HKS.out HD.out.lt)
  clear hN hDN hK hnew hKS' hF' HKS HD hc0 hne1
  refine wp_region_still_tail 8 (by kernel_rfl) (by kernel_rfl) ?_
  simp only [List.take_succ_cons, List.take_zero, List.drop_succ_cons, List.drop_zero]
  change wpStill _ _ w'.drew _ _ _
  repeat still_step
  refine wpStill_nil ?_
  change wpList _ _ _ _ _ w'.drew
  have hflat : (flatC D.cells).length = D.cells.length * 65 := length_flatC _
  have hflat0 : (flatC (newDsk D.cells.length).cells).length = D.cells.length * 65 := by rw [length_flatC, hlN]
  refine wpList_copyA rfl _ _ _ _ rfl 73 Try.underlying62 65 (by kernel_rfl) cb' 0 D.cells.length D.cells.length ⟨cb, 0, none⟩ D.cells.length D.cells.length (by rfl) (by rfl) (flatC D.cells) D.cells.length (Nat.min_self _).symm hflat ?_ ?_ ?_ ?_
  · intro j v hv
    have := range_all HN.out.2.1.hc j v hv
    rw [Addr.add_mid]
    simpa using this
  · exact there_of HN.out.1.hc 0 _ (by rw [hflat, hflat0]; omega)
  · intro v hv
    obtain ⟨c, _, hc⟩ := List.mem_flatMap.1 hv
    exact ccells_one c v hc
  obtain ⟨W, hW⟩ : ∃ W, W = w'.drew.setCells cb' 0 (flatC D.cells) := ⟨_, rfl⟩
  rw [← hW]
  obtain ⟨hN, hDN, hK, hnew, hKS⟩ := HN.out
  have hcb' := hnew _ hN.fc
  have hKW : Kp (fun _ => False) w W := by rw [hW]; exact Kp.setCells (fun h => absurd h (by omega)) _ _ _ hK.drew
  have hoth : ∀ k, k ≠ cb' → W.heap[k]? = w'.heap[k]? := fun k hk => by rw [hW]; exact heap_setCells_ne hk _ _ _
  have hWs : W.heap.size = w'.heap.size := by rw [hW, size_setCells]; rfl
  have hNW : DskAt W b' cb' mb' [] clock' { newDsk D.cells.length with cells := D.cells } F' := by
    refine hN.recell D.cells hlN.symm ?_ hoth (by rw [hWs]; exact Nat.le_refl _)
    rw [hW]
    have := heap_setCells_same (flatC D.cells) 0 w'.drew _ hN.hc (by rw [hflat, hflat0]; omega)
    rw [this, over]
    simp [hflat, hflat0]
  have hDW := hDN.step (w' := W) (fun _ h => h) (fun k hk => hoth k (fun e => by have := hDN.lt k hk; have h1 := HDl.out.2 k hk; omega)) (fun k hk => by rw [hWs]; exact hDN.lt k hk)
  have hKSW : Ints W kv ks := HDl.out.1.kept hKW
  have HW := Lib.hid (And.intro hNW (And.intro hDW (And.intro hKW (And.intro hKSW hnew))))
  clear hN hDN hK hnew hKS hKW hoth hNW hDW hKSW hflat hflat0 HN hW hWs hcb' hcN hcD
  go_wp2_with (first
    | (go_at_call 36; refine (sectors_c _ b D F ⟨cb, mb, l, clock, HW.out.2.1⟩).mono ?_; rintro e w'' ⟨rv, rfl, hrow, hK2⟩; obtain ⟨p, cap, rfl⟩ : ∃ p cap, rv = .slice p D.keys.length cap := by
        rcases hrow.2 with ⟨h1, h2⟩ | ⟨g, cap, cur, h1, -⟩
        · exact ⟨none, 0, by rw [h1, h2]⟩
        · exact ⟨_, _, h1⟩))
  have hkl : D.keys.length ≤ 65536 := by
    have := HW.out.2.1.few
    have h2 : D.keys.length = l.length := by rw [Dsk.keys, List.length_mergeSort, ← HW.out.2.1.ents]; simp
    omega
  have hRel : CrashAt w b cb mb l clock D F ks kv b' cb' mb' clock' F' (W.heap.size + 1) (.slice p D.keys.length cap) (.int .i64 (0 : Nat)) w'' := by
    obtain ⟨hN, hDW, hKW, hKS, hnew⟩ := HW.out
    exact ⟨0, rfl, Nat.zero_le _, hDW.step (fun _ h => h) (fun k hk => hK2.block k (hDW.lt k hk) (fun h => h)) (fun k hk => Nat.lt_of_lt_of_le (hDW.lt k hk) hK2.size),
      hN.step (fun _ h => h) (fun k hk => hK2.block k (hN.lt k hk) (fun h => h)) (fun k hk => Nat.lt_of_lt_of_le (hN.lt k hk) hK2.size), hKS.kept hK2, hrow, hKW.trans hK2 (fun _ _ h => h)⟩
  have HRel := Lib.hid hRel
  have HWC := Lib.hid (show cb' < W.heap.size from HW.out.1.lt _ HW.out.1.fc)
  have HKL := Lib.hid hkl
  clear hRel hrow hK2 hkl
  go_loopw [27] (fun i wr => CrashAt w b cb mb l clock D F ks kv b' cb' mb' clock' F' (W.heap.size + 1) (.slice p D.keys.length cap) i wr) (fun i _ => D.keys.length - (intOf i).toNat)
  case atStart => exact HRel.out
  case round =>
    obtain ⟨n, rfl, hn, hD, hN, hKS, hown, hK⟩ := hrel
    have hkl := HKL.out
    by_cases hnl : n < D.keys.length
    · obtain ⟨g, cur, rfl, hg, htake⟩ : ∃ g cur, p = some ⟨g, 0, none⟩ ∧ wr.heap[g]? = some (.cells cur 3 (0, 0)) ∧ cur.toList.take D.keys.length = D.keys.map (Value.int .i64) := by
        rcases hown.2 with ⟨h1, h2⟩ | ⟨g, cap', cur, h1, h2, h3, h4, h5, h6, h7⟩
        · omega
        · injection h1 with h1
          exact ⟨g, cur, h1, h3, by simpa using h7⟩
      obtain ⟨key, hkey⟩ : ∃ key, D.keys[n]? = some key := ⟨_, List.getElem?_eq_getElem hnl⟩
      have hcell : wr.cell? ⟨g, n, none⟩ = some (.int .i64 key) := by
        rw [cell_of hg]
        have h1 := congrArg (fun t => t[n]?) htake
        simp only [List.getElem?_take, if_pos hnl, List.getElem?_map, hkey, Option.map_some] at h1
        simpa using h1
      have hkm : key ∈ l.map (·.key) := by
        have h1 := List.mem_of_getElem? hkey
        rw [Dsk.keys, List.mem_mergeSort, ← hD.ents] at h1
        simpa using h1
      obtain ⟨x, hx, hxk, hget, hsecs⟩ : ∃ x, x ∈ l ∧ x.key = key ∧ (IMap.get (l.map Ent.i) key).getD (.slice none 0 0) = x.val ∧ D.at key = x.secs := by
        rcases at_of hD key with ⟨x, hx, hxk, hget, hsecs⟩ | ⟨hno, -, -⟩
        · exact ⟨x, hx, hxk, by rw [hget]; try rfl, hsecs⟩
        · obtain ⟨x, hx, hxk⟩ := List.mem_map.1 hkm
          exact absurd hxk (hno x hx)
      have hok := hD.ok x hx
      obtain ⟨k, rfl⟩ : ∃ k : Nat, key = k := ⟨key.toNat, by have := hok.lo; omega⟩
      have hkn : k < D.cells.length := by have := hok.hi; omega
      obtain ⟨c, hc⟩ : ∃ c, c = D.cells[k] := ⟨_, rfl⟩
      obtain ⟨X, hX⟩ : ∃ X, X = keepX ks n := ⟨_, rfl⟩
      have hsl : x.secs.length < 1073741824 := HSM.out (x.key, x.secs) (by rw [← hD.ents]; exact List.mem_map.2 ⟨x, hx, rfl⟩)
      have hxl : 0 < x.secs.length := List.length_pos_iff.2 hok.ne
      obtain ⟨gx, capx, hval, -, -⟩ := hok.own.form hxl
      have hrange := cell_range hD.hc k hkn
      rw [← hc] at hrange
      have hNl : (crashL D ks 0 (D.keys.take n) D.cells).length = D.cells.length := length_crashL _ _ _ _ _
      have hs1 := (dsk_cells hN).1
      simp only [hNl] at hs1
      have hs2 := (dsk_cells hD).1
      have hs3 := (dsk_cells hD).2.1
      have hwN : w.heap.size ≤ b' ∧ w.heap.size ≤ cb' := ⟨HW.out.2.2.2.2 _ hN.fb, HW.out.2.2.2.2 _ hN.fc⟩
      have hbl := HDl.out.2 _ hD.fb
      have hcl := HDl.out.2 _ hD.fc
      have hml := HDl.out.2 _ hD.fm
      have hbc := hN.b_ne_c
      obtain ⟨xv, hxv⟩ : ∃ xv, xv = x.val := ⟨_, rfl⟩
      have hS : ∀ w2, Kp (fun _ => False) wr.drew w2 → w2.cell? ⟨b', 0, none⟩ = some (.slice (some ⟨cb', 0, none⟩) D.cells.length D.cells.length) ∧ w2.cell? ⟨b, 0, none⟩ = some (.slice (some ⟨cb, 0, none⟩) D.cells.length D.cells.length) ∧ w2.cell? ⟨b, 1, none⟩ = some (.map (some mb)) ∧ w2.rangeAt cb (k * 65) (ccells c) ∧ w2.heap[mb]? = some (.map (IMap.arr (l.map Ent.i)) clock) := by
        intro w2 hk2
        have hk2' : Kp (fun _ => False) wr w2 := ((Kp.refl _ wr).drew).trans hk2 (fun _ _ h => h)
        have hD2 := hD.step (w' := w2) (fun _ h => h) (fun j hj => hk2'.block j (hD.lt j hj) (fun h => h)) (fun j hj => Nat.lt_of_lt_of_le (hD.lt j hj) hk2'.size)
        have hN2 := hN.step (w' := w2) (fun _ h => h) (fun j hj => hk2'.block j (hN.lt j hj) (fun h => h)) (fun j hj => Nat.lt_of_lt_of_le (hN.lt j hj) hk2'.size)
        have g1 := (dsk_cells hN2).1
        simp only [hNl] at g1
        exact ⟨g1, (dsk_cells hD2).1, (dsk_cells hD2).2.1, by rw [hc]; exact cell_range hD2.hc k hkn, hD2.hm⟩
      have hTH : ∀ w2, Kp (fun _ => False) wr.drew w2 → w2.there cb' (k * 65) (ccells (foundC c x.secs X)).length := by
        intro w2 hk2
        have hk2' : Kp (fun _ => False) wr w2 := ((Kp.refl _ wr).drew).trans hk2 (fun _ _ h => h)
        exact there_of (hk2'.heap hN.hc (fun h => h)) _ _ (by rw [length_flatC, length_ccells, hNl]; omega)
      have hS3 : ∀ w2, Kp (fun _ => False) wr.drew w2 → (fun w2 : World => w2.cell? ⟨b', 0, none⟩ = some (.slice (some ⟨cb', 0, none⟩) D.cells.length D.cells.length) ∧ w2.cell? ⟨b, 0, none⟩ = some (.slice (some ⟨cb, 0, none⟩) D.cells.length D.cells.length) ∧ w2.cell? ⟨b, 1, none⟩ = some (.map (some mb)) ∧ w2.rangeAt cb (k * 65) (ccells c) ∧ w2.heap[mb]? = some (.map (IMap.arr (l.map Ent.i)) clock)) (w2.setCells cb' (k * 65) (ccells (foundC c x.secs X))) := by
        intro w2 hk2
        obtain ⟨g1, g2, g3, g4, g5⟩ := hS w2 hk2
        have hh : ∀ j, j ≠ cb' → (w2.setCells cb' (k * 65) (ccells (foundC c x.secs X))).heap[j]? = w2.heap[j]? := fun j hj => heap_setCells_ne hj _ _ _
        refine ⟨?_, ?_, ?_, ?_, ?_⟩
        · rw [← g1]; simp only [World.cell?, hh b' hbc]
        · rw [← g2]; simp only [World.cell?, hh b (by omega)]
        · rw [← g3]; simp only [World.cell?, hh b (by omega)]
        · exact World.rangeAt_setCells_apart g4 _ _ _ (.inl (by omega))
        · rw [hh mb (by omega)]; exact g5
      have hREL : ∀ w2, Kp (fun _ => False) wr.drew w2 → CrashAt w b cb mb l clock D F ks kv b' cb' mb' clock' F' (W.heap.size + 1) (.slice (some ⟨g, 0, none⟩) D.keys.length cap) (.int .i64 ((n : Int) + 1)) (w2.setCells cb' (k * 65) (ccells (foundC c x.secs X))) := by
        intro w2 hk2
        have hk2' : Kp (fun _ => False) wr w2 := ((Kp.refl _ wr).drew).trans hk2 (fun _ _ h => h)
        have hh : ∀ j, j ≠ cb' → (w2.setCells cb' (k * 65) (ccells (foundC c x.secs X))).heap[j]? = w2.heap[j]? := fun j hj => heap_setCells_ne hj _ _ _
        have hsz : (w2.setCells cb' (k * 65) (ccells (foundC c x.secs X))).heap.size = w2.heap.size := size_setCells _ _ _
        have hN2 := hN.step (w' := w2) (fun _ h => h) (fun j hj => hk2'.block j (hN.lt j hj) (fun h => h)) (fun j hj => Nat.lt_of_lt_of_le (hN.lt j hj) hk2'.size)
        have hN3 := hN2.putCell k (by simp only [hNl]; exact hkn) (foundC c x.secs X)
        have hcr : (crashL D ks 0 (D.keys.take n) D.cells).set k (foundC c x.secs X) = crashL D ks 0 (D.keys.take (n + 1)) D.cells := by
          rw [List.take_add_one, hkey, Option.toList_some, crashL_snoc, List.length_take, Nat.min_eq_left hn, Nat.zero_add, hsecs, hX, hc]
          simp [List.getD, hkn]
        simp only [hcr] at hN3
        have hK3 : Kp (fun _ => False) w (w2.setCells cb' (k * 65) (ccells (foundC c x.secs X))) := Kp.setCells (fun h => absurd h (by omega)) _ _ _ (hK.trans hk2' (fun _ _ h => h))
        have hgW : W.heap.size + 1 ≤ g ∧ g ≠ cb' := ⟨(hown.lt g rfl).1, fun e => by have := (hown.lt g rfl).1; have := HWC.out; omega⟩
        refine ⟨n + 1, by simp, by omega, ?_, hN3, HDl.out.1.kept hK3, ?_, hK3⟩
        · exact hD.step (fun _ h => h) (fun j hj => (hh j (fun e => by have := HDl.out.2 j hj; omega)).trans (hk2'.block j (hD.lt j hj) (fun h => h))) (fun j hj => by rw [hsz]; exact Nat.lt_of_lt_of_le (hD.lt j hj) hk2'.size)
        · refine hown.kept (row := some cb') ⟨by rw [hK3.os, hK.os], by rw [hK3.tape, hK.tape], by rw [hK3.output, hK.output], by rw [hsz]; exact hk2'.size, fun j hj hne => (hh j (fun e => hne (by rw [e]))).trans (hk2'.block j hj (fun h => h))⟩ (.inr (fun e => hgW.2 (Option.some.inj e)))
      have hlk : ∀ w2 : World, w2.heap[mb]? = some (.map (IMap.arr (l.map Ent.i)) clock) → (Instr.lookup 63 (.map (some mb)) (.int .i64 (k : Int)) false).run Try.prog w2 = .ok xv w2 := by
        intro w2 hm2
        have := run_lookup_imap Try.underlying63 Try.underlying3 w2 mb _ clock hm2 (k : Int) (.slice none 0 0) (by kernel_rfl)
        rw [hget] at this
        rw [hxv]
        exact this
      have hown2 : wr.drew.ownsRow 0 33 64 (.slice (some ⟨gx, 0, none⟩) x.secs.length capx) x.secs.length (flatS x.secs) := by
        have := hok.own.drew
        rw [hval] at this
        exact this
      have hS0 := hS wr.drew (Kp.refl _ _)
      have HX := Lib.hid (And.intro hX (And.intro hc (And.intro hok.ne (And.intro (hxv.trans hval) (And.intro hown2 hsl)))))
      have HS := Lib.hid hS
      have HTH := Lib.hid hTH
      have HS3 := Lib.hid hS3
      have HREL := Lib.hid hREL
      have HLK := Lib.hid hlk
      have HNL := Lib.hid hnl
      have HWN : Hid (wrap64 ((n : Int) + 1) = (n : Int) + 1) := Lib.hid (IntWalk.wrap64_in _ (by omega))
      have hn0 : (0 : Int) ≤ (n : Int) := Int.natCast_nonneg _
      have hnk : (n : Int) < (D.keys.length : Int) := by omega
      have hk0 : (0 : Int) ≤ (k : Int) := Int.natCast_nonneg _
      have hkL : (k : Int) < (D.cells.length : Int) := by omega
      rcases hKS with ⟨hks0, p0, c0, hkv⟩ | ⟨hks0, g2, o2, c2, hkv, hkr⟩
      · have hX0 : X = 0 := by rw [hX, hks0]; rfl
        clear hX hc hok hown2 hsl hS hTH hS3 hREL hlk hnl hn hD hN hown hK hg htake hkey hkm hget hsecs hval hxl hrange hNl hs1 hs2 hs3 hwN hbl hcl hml hbc hxv hkl
        subst hkv
        subst hX0
        go_wp2
        refine wp_region_held (S := fun w' => w'.cell? ⟨b', 0, none⟩ = some (.slice (some ⟨cb', 0, none⟩) D.cells.length D.cells.length) ∧ w'.cell? ⟨b, 0, none⟩ = some (.slice (some ⟨cb, 0, none⟩) D.cells.length D.cells.length) ∧ w'.cell? ⟨b, 1, none⟩ = some (.map (some mb)) ∧ w'.rangeAt cb (k * 65) (ccells c) ∧ w'.heap[mb]? = some (.map (IMap.arr (l.map Ent.i)) clock)) (by kernel_rfl) ?_
        change wpAnyH _ _ _ _ _ _ _ _ wr.drew
        refine wpAnyH_take (i := 0) (v := (.pointer (some ⟨b', 0, none⟩))) rfl (by kernel_rfl) (by kernel_rfl) (by kernel_rfl) (fun _ _ _ h => h) (Or.inl ⟨by rfl, fun w' hS => ?_⟩) hS0 ?_
        · obtain ⟨hS1, hS2, hS3, -, -⟩ := hS; go_simp
        simp only [Act.put, List.getElem_toArray, List.getElem_cons_zero, List.getElem_cons_succ, List.setIfInBounds_toArray, List.set_cons_zero, List.set_cons_succ]
        refine wpAnyH_take (i := 1) (v := (.pointer (some ⟨b', 0, none⟩))) rfl (by kernel_rfl) (by kernel_rfl) (by kernel_rfl) (fun _ _ _ h => h) (Or.inl ⟨by rfl, fun w' hS => ?_⟩) hS0 ?_
        · obtain ⟨hS1, hS2, hS3, -, -⟩ := hS; go_simp
        simp only [Act.put, List.getElem_toArray, List.getElem_cons_zero, List.getElem_cons_succ, List.setIfInBounds_toArray, List.set_cons_zero, List.set_cons_succ]
        refine wpAnyH_take (i := 2) (v := (.pointer (some ⟨b', 0, none⟩))) rfl (by kernel_rfl) (by kernel_rfl) (by kernel_rfl) (fun _ _ _ h => h) (Or.inl ⟨by rfl, fun w' hS => ?_⟩) hS0 ?_
        · obtain ⟨hS1, hS2, hS3, -, -⟩ := hS; go_simp
        simp only [Act.put, List.getElem_toArray, List.getElem_cons_zero, List.getElem_cons_succ, List.setIfInBounds_toArray, List.set_cons_zero, List.set_cons_succ]
        refine wpAnyH_take (i := 3) (v := (.slice (some ⟨cb', 0, none⟩) D.cells.length D.cells.length)) rfl (by kernel_rfl) (by kernel_rfl) (by kernel_rfl) (fun _ _ _ h => h) (Or.inl ⟨by rfl, fun w' hS => ?_⟩) hS0 ?_
        · obtain ⟨hS1, hS2, hS3, -, -⟩ := hS; go_simp
        simp only [Act.put, List.getElem_toArray, List.getElem_cons_zero, List.getElem_cons_succ, List.setIfInBounds_toArray, List.set_cons_zero, List.set_cons_succ]
        refine wpAnyH_take (i := 4) (v := (.int .i64 k)) rfl (by kernel_rfl) (by kernel_rfl) (by kernel_rfl) (fun _ _ _ h => h) (Or.inl ⟨by rfl, fun w' hS => ?_⟩) hS0 ?_
        · obtain ⟨hS1, hS2, hS3, -, -⟩ := hS; go_simp
        simp only [Act.put, List.getElem_toArray, List.getElem_cons_zero, List.getElem_cons_succ, List.setIfInBounds_toArray, List.set_cons_zero, List.set_cons_succ]
        refine wpAnyH_take (i := 5) (v := (.pointer (some ⟨b, 0, none⟩))) rfl (by kernel_rfl) (by kernel_rfl) (by kernel_rfl) (fun _ _ _ h => h) (Or.inl ⟨by rfl, fun w' hS => ?_⟩) hS0 ?_
        · obtain ⟨hS1, hS2, hS3, -, -⟩ := hS; go_simp
        simp only [Act.put, List.getElem_toArray, List.getElem_cons_zero, List.getElem_cons_succ, List.setIfInBounds_toArray, List.set_cons_zero, List.set_cons_succ]
        refine wpAnyH_take (i := 6) (v := (.pointer (some ⟨b, 0, none⟩))) rfl (by kernel_rfl) (by kernel_rfl) (by kernel_rfl) (fun _ _ _ h => h) (Or.inl ⟨by rfl, fun w' hS => ?_⟩) hS0 ?_
        · obtain ⟨hS1, hS2, hS3, -, -⟩ := hS; go_simp
        simp only [Act.put, List.getElem_toArray, List.getElem_cons_zero, List.getElem_cons_succ, List.setIfInBounds_toArray, List.set_cons_zero, List.set_cons_succ]
        refine wpAnyH_take (i := 7) (v := (.pointer (some ⟨b, 0, none⟩))) rfl (by kernel_rfl) (by kernel_rfl) (by kernel_rfl) (fun _ _ _ h => h) (Or.inl ⟨by rfl, fun w' hS => ?_⟩) hS0 ?_
        · obtain ⟨hS1, hS2, hS3, -, -⟩ := hS; go_simp
        simp only [Act.put, List.getElem_toArray, List.getElem_cons_zero, List.getElem_cons_succ, List.setIfInBounds_toArray, List.set_cons_zero, List.set_cons_succ]
        refine wpAnyH_take (i := 8) (v := (.slice (some ⟨cb, 0, none⟩) D.cells.length D.cells.length)) rfl (by kernel_rfl) (by kernel_rfl) (by kernel_rfl) (fun _ _ _ h => h) (Or.inl ⟨by rfl, fun w' hS => ?_⟩) hS0 ?_
        · obtain ⟨hS1, hS2, hS3, -, -⟩ := hS; go_simp
        simp only [Act.put, List.getElem_toArray, List.getElem_cons_zero, List.getElem_cons_succ, List.setIfInBounds_toArray, List.set_cons_zero, List.set_cons_succ]
        refine wpAnyH_take (i := 9) (v := (.int .i64 k)) rfl (by kernel_rfl) (by kernel_rfl) (by kernel_rfl) (fun _ _ _ h => h) (Or.inl ⟨by rfl, fun w' hS => ?_⟩) hS0 ?_
        · obtain ⟨hS1, hS2, hS3, -, -⟩ := hS; go_simp
        simp only [Act.put, List.getElem_toArray, List.getElem_cons_zero, List.getElem_cons_succ, List.setIfInBounds_toArray, List.set_cons_zero, List.set_cons_succ]
        refine wpAnyH_take (i := 10) (v := (.pointer (some ⟨cb, k * 65, none⟩))) rfl (by kernel_rfl) (by kernel_rfl) (by kernel_rfl) (fun _ _ _ h => h) (Or.inl ⟨by rfl, fun w' hS => ?_⟩) hS0 ?_
        · obtain ⟨hS1, hS2, hS3, -, -⟩ := hS; go_simp
        simp only [Act.put, List.getElem_toArray, List.getElem_cons_zero, List.getElem_cons_succ, List.setIfInBounds_toArray, List.set_cons_zero, List.set_cons_succ]
        refine wpAnyH_take (i := 11) (v := (.agg (ccells c).toArray)) rfl (by kernel_rfl) (by kernel_rfl) (by kernel_rfl) (fun _ _ _ h => h) (yieldsIf_load_mid (by rfl) _ _ rfl cb (k * 65) (by rfl) (ccells c) _ (fun w' hS => hS.2.2.2.1) Try.underlying73 rfl (lenCell _)) hS0 ?_
        simp only [Act.put, List.getElem_toArray, List.getElem_cons_zero, List.getElem_cons_succ, List.setIfInBounds_toArray, List.set_cons_zero, List.set_cons_succ]
        refine wpAnyH_take (i := 12) (v := (.pointer (some ⟨b, 0, none⟩))) rfl (by kernel_rfl) (by kernel_rfl) (by kernel_rfl) (fun _ _ _ h => h) (Or.inl ⟨by rfl, fun w' hS => ?_⟩) hS0 ?_
        · obtain ⟨hS1, hS2, hS3, -, -⟩ := hS; go_simp
        simp only [Act.put, List.getElem_toArray, List.getElem_cons_zero, List.getElem_cons_succ, List.setIfInBounds_toArray, List.set_cons_zero, List.set_cons_succ]
        refine wpAnyH_take (i := 13) (v := (.pointer (some ⟨b, 0, none⟩))) rfl (by kernel_rfl) (by kernel_rfl) (by kernel_rfl) (fun _ _ _ h => h) (Or.inl ⟨by rfl, fun w' hS => ?_⟩) hS0 ?_
        · obtain ⟨hS1, hS2, hS3, -, -⟩ := hS; go_simp
        simp only [Act.put, List.getElem_toArray, List.getElem_cons_zero, List.getElem_cons_succ, List.setIfInBounds_toArray, List.set_cons_zero, List.set_cons_succ]
        refine wpAnyH_take (i := 14) (v := (.pointer (some ⟨b, 1, none⟩))) rfl (by kernel_rfl) (by kernel_rfl) (by kernel_rfl) (fun _ _ _ h => h) (Or.inl ⟨by rfl, fun w' hS => ?_⟩) hS0 ?_
        · obtain ⟨hS1, hS2, hS3, -, -⟩ := hS; go_simp
        simp only [Act.put, List.getElem_toArray, List.getElem_cons_zero, List.getElem_cons_succ, List.setIfInBounds_toArray, List.set_cons_zero, List.set_cons_succ]
        refine wpAnyH_take (i := 15) (v := (.map (some mb))) rfl (by kernel_rfl) (by kernel_rfl) (by kernel_rfl) (fun _ _ _ h => h) (Or.inl ⟨by rfl, fun w' hS => ?_⟩) hS0 ?_
        · obtain ⟨hS1, hS2, hS3, -, -⟩ := hS; go_simp
        simp only [Act.put, List.getElem_toArray, List.getElem_cons_zero, List.getElem_cons_succ, List.setIfInBounds_toArray, List.set_cons_zero, List.set_cons_succ]
        refine wpAnyH_take (i := 16) (v := (.int .i64 k)) rfl (by kernel_rfl) (by kernel_rfl) (by kernel_rfl) (fun _ _ _ h => h) (Or.inl ⟨by rfl, fun w' hS => ?_⟩) hS0 ?_
        · obtain ⟨hS1, hS2, hS3, -, -⟩ := hS; go_simp
        simp only [Act.put, List.getElem_toArray, List.getElem_cons_zero, List.getElem_cons_succ, List.setIfInBounds_toArray, List.set_cons_zero, List.set_cons_succ]
        refine wpAnyH_take (i := 17) (v := xv) rfl (by kernel_rfl) (by kernel_rfl) (by kernel_rfl) (fun _ _ _ h => h) (Or.inl ⟨by rfl, fun w' hS => ?_⟩) hS0 ?_
        · have hlk := HLK.out w' hS.2.2.2.2; clear hS; go_simp
        simp only [Act.put, List.getElem_toArray, List.getElem_cons_zero, List.getElem_cons_succ, List.setIfInBounds_toArray, List.set_cons_zero, List.set_cons_succ]
        refine wpAnyH_take (i := 18) (v := (.int .i64 0)) rfl (by kernel_rfl) (by kernel_rfl) (by kernel_rfl) (fun _ _ _ h => h) (Or.inl ⟨by rfl, fun w' hS => ?_⟩) hS0 ?_
        · obtain ⟨hS1, hS2, hS3, -, -⟩ := hS; go_simp
        simp only [Act.put, List.getElem_toArray, List.getElem_cons_zero, List.getElem_cons_succ, List.setIfInBounds_toArray, List.set_cons_zero, List.set_cons_succ]
        refine anyH_one (i := 19) (by kernel_rfl) ?_
        refine wpOp_calls 37 #[av (ccells c), xv, .int .i64 0] wr.drew rfl rfl (by go_simp; rfl) ?_
        rw [HX.out.2.2.2.1]
        refine (found_c wr.drew c _ gx capx _ x.secs 0 HX.out.2.2.1 HX.out.2.2.2.2.2 HX.out.2.2.2.2.1).mono ?_
        rintro e w2 ⟨rfl, hK2⟩
        refine ⟨_, rfl, ?_⟩
        rw [← HX.out.2.2.2.1]
        have hS2 := HS.out w2 hK2
        refine ⟨hS2, ?_⟩
        simp only [Act.put, List.getElem_toArray, List.getElem_cons_zero, List.getElem_cons_succ, List.setIfInBounds_toArray, List.set_cons_zero, List.set_cons_succ]
        refine wpAnyH_take (i := 20) (v := (.pointer (some ⟨cb', k * 65, none⟩))) rfl (by kernel_rfl) (by kernel_rfl) (by kernel_rfl) (fun _ _ _ h => h) (Or.inl ⟨by rfl, fun w' hS => ?_⟩) hS2 ?_
        · go_simp
        simp only [Act.put, List.getElem_toArray, List.getElem_cons_zero, List.getElem_cons_succ, List.setIfInBounds_toArray, List.set_cons_zero, List.set_cons_succ]
        refine anyH_one (i := 21) (by kernel_rfl) ?_
        refine wpOp_storeA 73 _ _ cb' (k * 65) (ccells (foundC c x.secs 0)) rfl rfl rfl (by rfl) (by rfl) (HTH.out w2 hK2) (lenCell _) (ccells_one _) ⟨?_, ?_⟩
        · exact HS3.out w2 hK2
        refine wpAnyH_done (by kernel_rfl) ?_ _
        simp only [Act.put, List.getElem_toArray, List.getElem_cons_zero, List.getElem_cons_succ, List.setIfInBounds_toArray, List.set_cons_zero, List.set_cons_succ]
        have hRel2 := HREL.out w2 hK2
        clear hS2 hS0
        generalize w2.setCells cb' (k * 65) (ccells (foundC c x.secs 0)) = w3 at *
        have HR2 := Lib.hid hRel2
        clear hRel2 hK2
        go_wp2
        go_roundw
        case rel => rw [HWN.out]; exact HR2.out
        case measure => exact measure_next HNL.out _ _ (congrArg (Value.int .i64) HWN.out) rfl
      · obtain ⟨m, hm⟩ : ∃ m, m = n % ks.length := ⟨_, rfl⟩
        have hksl : 0 < ks.length := List.length_pos_iff.2 hks0
        have hml2 : m < ks.length := by rw [hm]; exact Nat.mod_lt _ hksl
        have hcellk : wr.cell? ⟨g2, o2 + m, none⟩ = some (.int .i64 X) := by
          refine hkr m _ ?_
          rw [List.getElem?_map, hX, keepX, ← hm]
          simp [List.getD, hml2]
        have hrem : (n : Int).tmod (ks.length : Int) = (m : Int) := by
          rw [hm, Int.tmod_eq_emod_of_nonneg (by omega)]; simp
        have hz : ((ks.length : Int) == 0) = false := by simp; omega
        have hgt : (0 : Int) < (ks.length : Int) := by omega
        have hm0 : (0 : Int) ≤ (m : Int) := by omega
        have hm1 : (m : Int) < (ks.length : Int) := by omega
        have hwm : IntKind.i64.wrap (m : Int) = (m : Int) := IntWalk.i64_in _ (by have := hkl; have : m ≤ n := by rw [hm]; exact Nat.mod_le _ _
                                                                                  omega)
        clear hX hc hok hown2 hsl hS hTH hS3 hREL hlk hnl hn hD hN hown hK hg htake hkey hkm hget hsecs hval hxl hrange hNl hs1 hs2 hs3 hwN hbl hcl hml hbc hxv hkl hm hksl hml2 hkr hks0
        subst hkv
        go_wp2
        refine wp_region_held (S := fun w' => w'.cell? ⟨b', 0, none⟩ = some (.slice (some ⟨cb', 0, none⟩) D.cells.length D.cells.length) ∧ w'.cell? ⟨b, 0, none⟩ = some (.slice (some ⟨cb, 0, none⟩) D.cells.length D.cells.length) ∧ w'.cell? ⟨b, 1, none⟩ = some (.map (some mb)) ∧ w'.rangeAt cb (k * 65) (ccells c) ∧ w'.heap[mb]? = some (.map (IMap.arr (l.map Ent.i)) clock)) (by kernel_rfl) ?_
        change wpAnyH _ _ _ _ _ _ _ _ wr.drew
        refine wpAnyH_take (i := 0) (v := (.pointer (some ⟨b', 0, none⟩))) rfl (by kernel_rfl) (by kernel_rfl) (by kernel_rfl) (fun _ _ _ h => h) (Or.inl ⟨by rfl, fun w' hS => ?_⟩) hS0 ?_
        · obtain ⟨hS1, hS2, hS3, -, -⟩ := hS; go_simp
        simp only [Act.put, List.getElem_toArray, List.getElem_cons_zero, List.getElem_cons_succ, List.setIfInBounds_toArray, List.set_cons_zero, List.set_cons_succ]
        refine wpAnyH_take (i := 1) (v := (.pointer (some ⟨b', 0, none⟩))) rfl (by kernel_rfl) (by kernel_rfl) (by kernel_rfl) (fun _ _ _ h => h) (Or.inl ⟨by rfl, fun w' hS => ?_⟩) hS0 ?_
        · obtain ⟨hS1, hS2, hS3, -, -⟩ := hS; go_simp
        simp only [Act.put, List.getElem_toArray, List.getElem_cons_zero, List.getElem_cons_succ, List.setIfInBounds_toArray, List.set_cons_zero, List.set_cons_succ]
        refine wpAnyH_take (i := 2) (v := (.pointer (some ⟨b', 0, none⟩))) rfl (by kernel_rfl) (by kernel_rfl) (by kernel_rfl) (fun _ _ _ h => h) (Or.inl ⟨by rfl, fun w' hS => ?_⟩) hS0 ?_
        · obtain ⟨hS1, hS2, hS3, -, -⟩ := hS; go_simp
        simp only [Act.put, List.getElem_toArray, List.getElem_cons_zero, List.getElem_cons_succ, List.setIfInBounds_toArray, List.set_cons_zero, List.set_cons_succ]
        refine wpAnyH_take (i := 3) (v := (.slice (some ⟨cb', 0, none⟩) D.cells.length D.cells.length)) rfl (by kernel_rfl) (by kernel_rfl) (by kernel_rfl) (fun _ _ _ h => h) (Or.inl ⟨by rfl, fun w' hS => ?_⟩) hS0 ?_
        · obtain ⟨hS1, hS2, hS3, -, -⟩ := hS; go_simp
        simp only [Act.put, List.getElem_toArray, List.getElem_cons_zero, List.getElem_cons_succ, List.setIfInBounds_toArray, List.set_cons_zero, List.set_cons_succ]
        refine wpAnyH_take (i := 4) (v := (.int .i64 k)) rfl (by kernel_rfl) (by kernel_rfl) (by kernel_rfl) (fun _ _ _ h => h) (Or.inl ⟨by rfl, fun w' hS => ?_⟩) hS0 ?_
        · obtain ⟨hS1, hS2, hS3, -, -⟩ := hS; go_simp
        simp only [Act.put, List.getElem_toArray, List.getElem_cons_zero, List.getElem_cons_succ, List.setIfInBounds_toArray, List.set_cons_zero, List.set_cons_succ]
        refine wpAnyH_take (i := 5) (v := (.pointer (some ⟨b, 0, none⟩))) rfl (by kernel_rfl) (by kernel_rfl) (by kernel_rfl) (fun _ _ _ h => h) (Or.inl ⟨by rfl, fun w' hS => ?_⟩) hS0 ?_
        · obtain ⟨hS1, hS2, hS3, -, -⟩ := hS; go_simp
        simp only [Act.put, List.getElem_toArray, List.getElem_cons_zero, List.getElem_cons_succ, List.setIfInBounds_toArray, List.set_cons_zero, List.set_cons_succ]
        refine wpAnyH_take (i := 6) (v := (.pointer (some ⟨b, 0, none⟩))) rfl (by kernel_rfl) (by kernel_rfl) (by kernel_rfl) (fun _ _ _ h => h) (Or.inl ⟨by rfl, fun w' hS => ?_⟩) hS0 ?_
        · obtain ⟨hS1, hS2, hS3, -, -⟩ := hS; go_simp
        simp only [Act.put, List.getElem_toArray, List.getElem_cons_zero, List.getElem_cons_succ, List.setIfInBounds_toArray, List.set_cons_zero, List.set_cons_succ]
        refine wpAnyH_take (i := 7) (v := (.pointer (some ⟨b, 0, none⟩))) rfl (by kernel_rfl) (by kernel_rfl) (by kernel_rfl) (fun _ _ _ h => h) (Or.inl ⟨by rfl, fun w' hS => ?_⟩) hS0 ?_
        · obtain ⟨hS1, hS2, hS3, -, -⟩ := hS; go_simp
        simp only [Act.put, List.getElem_toArray, List.getElem_cons_zero, List.getElem_cons_succ, List.setIfInBounds_toArray, List.set_cons_zero, List.set_cons_succ]
        refine wpAnyH_take (i := 8) (v := (.slice (some ⟨cb, 0, none⟩) D.cells.length D.cells.length)) rfl (by kernel_rfl) (by kernel_rfl) (by kernel_rfl) (fun _ _ _ h => h) (Or.inl ⟨by rfl, fun w' hS => ?_⟩) hS0 ?_
        · obtain ⟨hS1, hS2, hS3, -, -⟩ := hS; go_simp
        simp only [Act.put, List.getElem_toArray, List.getElem_cons_zero, List.getElem_cons_succ, List.setIfInBounds_toArray, List.set_cons_zero, List.set_cons_succ]
        refine wpAnyH_take (i := 9) (v := (.int .i64 k)) rfl (by kernel_rfl) (by kernel_rfl) (by kernel_rfl) (fun _ _ _ h => h) (Or.inl ⟨by rfl, fun w' hS => ?_⟩) hS0 ?_
        · obtain ⟨hS1, hS2, hS3, -, -⟩ := hS; go_simp
        simp only [Act.put, List.getElem_toArray, List.getElem_cons_zero, List.getElem_cons_succ, List.setIfInBounds_toArray, List.set_cons_zero, List.set_cons_succ]
        refine wpAnyH_take (i := 10) (v := (.pointer (some ⟨cb, k * 65, none⟩))) rfl (by kernel_rfl) (by kernel_rfl) (by kernel_rfl) (fun _ _ _ h => h) (Or.inl ⟨by rfl, fun w' hS => ?_⟩) hS0 ?_
        · obtain ⟨hS1, hS2, hS3, -, -⟩ := hS; go_simp
        simp only [Act.put, List.getElem_toArray, List.getElem_cons_zero, List.getElem_cons_succ, List.setIfInBounds_toArray, List.set_cons_zero, List.set_cons_succ]
        refine wpAnyH_take (i := 11) (v := (.agg (ccells c).toArray)) rfl (by kernel_rfl) (by kernel_rfl) (by kernel_rfl) (fun _ _ _ h => h) (yieldsIf_load_mid (by rfl) _ _ rfl cb (k * 65) (by rfl) (ccells c) _ (fun w' hS => hS.2.2.2.1) Try.underlying73 rfl (lenCell _)) hS0 ?_
        simp only [Act.put, List.getElem_toArray, List.getElem_cons_zero, List.getElem_cons_succ, List.setIfInBounds_toArray, List.set_cons_zero, List.set_cons_succ]
        refine wpAnyH_take (i := 12) (v := (.pointer (some ⟨b, 0, none⟩))) rfl (by kernel_rfl) (by kernel_rfl) (by kernel_rfl) (fun _ _ _ h => h) (Or.inl ⟨by rfl, fun w' hS => ?_⟩) hS0 ?_
        · obtain ⟨hS1, hS2, hS3, -, -⟩ := hS; go_simp
        simp only [Act.put, List.getElem_toArray, List.getElem_cons_zero, List.getElem_cons_succ, List.setIfInBounds_toArray, List.set_cons_zero, List.set_cons_succ]
        refine wpAnyH_take (i := 13) (v := (.pointer (some ⟨b, 0, none⟩))) rfl (by kernel_rfl) (by kernel_rfl) (by kernel_rfl) (fun _ _ _ h => h) (Or.inl ⟨by rfl, fun w' hS => ?_⟩) hS0 ?_
        · obtain ⟨hS1, hS2, hS3, -, -⟩ := hS; go_simp
        simp only [Act.put, List.getElem_toArray, List.getElem_cons_zero, List.getElem_cons_succ, List.setIfInBounds_toArray, List.set_cons_zero, List.set_cons_succ]
        refine wpAnyH_take (i := 14) (v := (.pointer (some ⟨b, 1, none⟩))) rfl (by kernel_rfl) (by kernel_rfl) (by kernel_rfl) (fun _ _ _ h => h) (Or.inl ⟨by rfl, fun w' hS => ?_⟩) hS0 ?_
        · obtain ⟨hS1, hS2, hS3, -, -⟩ := hS; go_simp
        simp only [Act.put, List.getElem_toArray, List.getElem_cons_zero, List.getElem_cons_succ, List.setIfInBounds_toArray, List.set_cons_zero, List.set_cons_succ]
        refine wpAnyH_take (i := 15) (v := (.map (some mb))) rfl (by kernel_rfl) (by kernel_rfl) (by kernel_rfl) (fun _ _ _ h => h) (Or.inl ⟨by rfl, fun w' hS => ?_⟩) hS0 ?_
        · obtain ⟨hS1, hS2, hS3, -, -⟩ := hS; go_simp
        simp only [Act.put, List.getElem_toArray, List.getElem_cons_zero, List.getElem_cons_succ, List.setIfInBounds_toArray, List.set_cons_zero, List.set_cons_succ]
        refine wpAnyH_take (i := 16) (v := (.int .i64 k)) rfl (by kernel_rfl) (by kernel_rfl) (by kernel_rfl) (fun _ _ _ h => h) (Or.inl ⟨by rfl, fun w' hS => ?_⟩) hS0 ?_
        · obtain ⟨hS1, hS2, hS3, -, -⟩ := hS; go_simp
        simp only [Act.put, List.getElem_toArray, List.getElem_cons_zero, List.getElem_cons_succ, List.setIfInBounds_toArray, List.set_cons_zero, List.set_cons_succ]
        refine wpAnyH_take (i := 17) (v := xv) rfl (by kernel_rfl) (by kernel_rfl) (by kernel_rfl) (fun _ _ _ h => h) (Or.inl ⟨by rfl, fun w' hS => ?_⟩) hS0 ?_
        · have hlk := HLK.out w' hS.2.2.2.2; clear hS; go_simp
        simp only [Act.put, List.getElem_toArray, List.getElem_cons_zero, List.getElem_cons_succ, List.setIfInBounds_toArray, List.set_cons_zero, List.set_cons_succ]
        refine wpAnyH_take (i := 18) (v := (.int .i64 X)) rfl (by kernel_rfl) (by kernel_rfl) (by kernel_rfl) (fun _ _ _ h => h) (Or.inl ⟨by rfl, fun w' hS => ?_⟩) hS0 ?_
        · obtain ⟨hS1, hS2, hS3, -, -⟩ := hS; go_simp
        simp only [Act.put, List.getElem_toArray, List.getElem_cons_zero, List.getElem_cons_succ, List.setIfInBounds_toArray, List.set_cons_zero, List.set_cons_succ]
        refine anyH_one (i := 19) (by kernel_rfl) ?_
        refine wpOp_calls 37 #[av (ccells c), xv, .int .i64 X] wr.drew rfl rfl (by go_simp; rfl) ?_
        rw [HX.out.2.2.2.1]
        refine (found_c wr.drew c _ gx capx _ x.secs X HX.out.2.2.1 HX.out.2.2.2.2.2 HX.out.2.2.2.2.1).mono ?_
        rintro e w2 ⟨rfl, hK2⟩
        refine ⟨_, rfl, ?_⟩
        rw [← HX.out.2.2.2.1]
        have hS2 := HS.out w2 hK2
        refine ⟨hS2, ?_⟩
        simp only [Act.put, List.getElem_toArray, List.getElem_cons_zero, List.getElem_cons_succ, List.setIfInBounds_toArray, List.set_cons_zero, List.set_cons_succ]
        refine wpAnyH_take (i := 20) (v := (.pointer (some ⟨cb', k * 65, none⟩))) rfl (by kernel_rfl) (by kernel_rfl) (by kernel_rfl) (fun _ _ _ h => h) (Or.inl ⟨by rfl, fun w' hS => ?_⟩) hS2 ?_
        · go_simp
        simp only [Act.put, List.getElem_toArray, List.getElem_cons_zero, List.getElem_cons_succ, List.setIfInBounds_toArray, List.set_cons_zero, List.set_cons_succ]
        refine anyH_one (i := 21) (by kernel_rfl) ?_
        refine wpOp_storeA 73 _ _ cb' (k * 65) (ccells (foundC c x.secs X)) rfl rfl rfl (by rfl) (by rfl) (HTH.out w2 hK2) (lenCell _) (ccells_one _) ⟨?_, ?_⟩
        · exact HS3.out w2 hK2
        refine wpAnyH_done (by kernel_rfl) ?_ _
        simp only [Act.put, List.getElem_toArray, List.getElem_cons_zero, List.getElem_cons_succ, List.setIfInBounds_toArray, List.set_cons_zero, List.set_cons_succ]
        have hRel2 := HREL.out w2 hK2
        clear hS2 hS0
        generalize w2.setCells cb' (k * 65) (ccells (foundC c x.secs X)) = w3 at *
        have HR2 := Lib.hid hRel2
        clear hRel2 hK2
        go_wp2
        go_roundw
        case rel => rw [HWN.out]; exact HR2.out
        case measure => exact measure_next HNL.out _ _ (congrArg (Value.int .i64) HWN.out) rfl
    · have HE := Lib.hid (And.intro hnl (And.intro hn (And.intro hN hK)))
      have hlt : ¬ ((n : Int) < (D.keys.length : Int)) := by omega
      clear hnl hn hD hN hKS hown hK hkl
      go_wp2
      go_ret
      obtain ⟨hnl, hn, hN, hK⟩ := HE.out
      refine ⟨b', rfl, F', ⟨cb', mb', [], clock', ?_⟩, HW.out.2.2.2.2, hK⟩
      rw [List.take_of_length_le (by omega)] at hN
      exact hN

end Go.Proofs.Ytopeelclhpjngaa
