/- The contract of Sync. -/
import Derived.Test.YtopeelclhpjngaaDiskC
import Derived.Maps.RangeRun
import Derived.Maps.RangeWalk
import Derived.Deep.LoopGhost
import Derived.StillTailTactics
attribute [local go_sem ↓] Go.wp_at_zero Go.wp_at_succ
namespace Go.Proofs.Ytopeelclhpjngaa
set_option linter.unusedSimpArgs false
set_option linter.unusedVariables false
open Go Go.ChangeMaps Go.RowKit Go.Proofs

def Dsk.syncE (D : Dsk) : Int := if D.chk 0 ≠ 0 then D.chk 0 else D.stpE
/-- The cells when all open writes are durable. -/
def Dsk.flush (D : Dsk) : List (Sec × Bool) := D.cells.zipIdx.map fun c => if D.at (c.2 : Int) ≠ [] then ((D.at (c.2 : Int)).getLastD zsec, false) else c.1
def Dsk.sync (D : Dsk) : Dsk := if D.chk 0 ≠ 0 then D else if D.stpE ≠ 0 then D.stp else { D.stp with cells := D.flush, opn := [] }

theorem buildCell (s : Sec) (w : World) : (Instr.build 73 #[(0, bv s)]).run Try.prog w = .ok (av (ccells (s, false))) w := by
  have h := run_build_struct1 (P := Try.prog) (ccells (zsec, false)) (bcells s) 0 0 #[(0, 64), (64, 1)] Try.underlying73 zeroCell (fun w => by kernel_rfl) (by simp) (by simp) w
  have : over (ccells (zsec, false)) 0 (bcells s) = ccells (s, false) := by simp [over, ccells]
  rw [this] at h
  exact h

/-- How many entries a map has. -/
def mapLen (w : World) (m : Nat) : Nat := match w.heap[m]? with | some (.map es _) => es.size | _ => 0

/-- The loop of Sync under way: the disk has less open writes, and its cells are what they were to become. -/
def SyncAt (w0 : World) (b cb mb r : Nat) (clock : Nat) (D0 : Dsk) (F : Nat → Prop) (w : World) : Prop :=
  ∃ (l : List Ent) (cells : List (Sec × Bool)) (seen : Array Nat),
    DskAt w b cb mb l clock { D0 with cells := cells, opn := l.map fun x => (x.key, x.secs) } F ∧ w.heap[r]? = some (.mapIter (some mb) clock seen clock) ∧ (∀ x ∈ l, seen.contains x.born = false) ∧
    cells.length = D0.cells.length ∧ Dsk.flush { D0 with cells := cells, opn := l.map fun x => (x.key, x.secs) } = D0.flush ∧ ¬ F r ∧ Kp F w0 w

theorem fold_cell (s : Sec) (A : Array Value) (hA : A.size = 65) (hL : A.toList.drop 64 = [.bool false]) : List.foldl (fun (cs : Array Value) x => cs.setIfInBounds x.snd x.fst) A (bcells s).zipIdx = (ccells (s, false)).toArray := by
  have h := foldl_over (bcells s) 0 0 A.toList (by simp [hA])
  simp only [Nat.zero_add, Array.toArray_toList] at h
  rw [h]
  simp only [over, List.take_zero, List.nil_append, length_bcells, Nat.zero_add, hL, ccells]
attribute [local go_sem] fold_cell

theorem find_eraseP_ne {i k : Int} (h : i ≠ k) : ∀ l : List Ent, (l.eraseP (fun x => x.key == k)).find? (fun x => x.key == i) = l.find? (fun x => x.key == i)
  | [] => rfl
  | x :: r => by
    by_cases hx : x.key == k
    · have : (x.key == i) = false := by
        have e : x.key = k := by simpa using hx
        simp [e, Ne.symm h]
      rw [List.eraseP_cons_of_pos (p := fun x : Ent => x.key == k) hx, List.find?_cons, this]
    · rw [List.eraseP_cons_of_neg (p := fun x : Ent => x.key == k) hx, List.find?_cons, List.find?_cons, find_eraseP_ne h r]
theorem find_eraseP_eq {k : Int} : ∀ l : List Ent, (l.map (·.key)).Nodup → (l.eraseP (fun x => x.key == k)).find? (fun x => x.key == k) = none
  | [], _ => rfl
  | x :: r, hn => by
    simp only [List.map_cons, List.nodup_cons] at hn
    by_cases hx : x.key == k
    · rw [List.eraseP_cons_of_pos (p := fun x : Ent => x.key == k) hx, List.find?_eq_none]
      intro y hy hh
      have e1 : x.key = k := by simpa using hx
      have e2 : y.key = k := by simpa using hh
      exact hn.1 (List.mem_map.2 ⟨y, hy, by rw [e1, e2]⟩)
    · have hx' : (x.key == k) = false := by simpa using hx
      rw [List.eraseP_cons_of_neg (p := fun x : Ent => x.key == k) hx, List.find?_cons, hx', find_eraseP_eq r hn.2]
theorem del_i (l : List Ent) (k : Int) : IMap.del (l.map Ent.i) k = (l.eraseP (fun x => x.key == k)).map Ent.i := by
  unfold IMap.del
  rw [List.eraseP_map]
  rfl
theorem opn_find (l : List Ent) (i : Int) : ((l.map (fun x => (x.key, x.secs))).find? (fun x => x.1 == i)).map (·.2) = (l.find? (fun x => x.key == i)).map (·.secs) := by
  rw [List.find?_map]
  simp [Function.comp_def]

theorem sync_round {w2 wr W : World} {b cb mb r : Nat} {clock : Nat} {D0 : Dsk} {F : Nat → Prop} {l : List Ent} {cells : List (Sec × Bool)} {seen : Array Nat} {x : Ent} {k : Nat} {s : Sec}
    (hWD : DskAt W b cb mb l clock { D0 with cells := cells, opn := l.map fun x => (x.key, x.secs) } F) (hWr : W.heap[r]? = some (.mapIter (some mb) clock (seen.push x.born) clock)) (hseen : ∀ x ∈ l, seen.contains x.born = false)
    (hlen : cells.length = D0.cells.length) (hflush : Dsk.flush { D0 with cells := cells, opn := l.map fun x => (x.key, x.secs) } = D0.flush) (hnr : ¬ F r) (hr2 : w2.heap.size ≤ r) (hKp : Kp F w2 wr) (hWo : ∀ k : Nat, k ≠ r → W.heap[k]? = wr.heap[k]?) (hWs : wr.heap.size ≤ W.heap.size)
    (hWos : W.os = wr.os ∧ W.tape = wr.tape ∧ W.output = wr.output) (hwm : wr.heap[mb]? = some (.map (IMap.arr (l.map Ent.i)) clock)) (hx : x ∈ l) (hk : x.key = (k : Int)) (hls : x.secs.getLastD zsec = s) :
    SyncAt w2 b cb mb r clock D0 F (setBlock (W.drew.setCells cb (k * 65) (ccells (s, false))) mb (.map (IMap.del (l.map Ent.i) (k : Int)).arr clock)) ∧
      mapLen (setBlock (W.drew.setCells cb (k * 65) (ccells (s, false))) mb (.map (IMap.del (l.map Ent.i) (k : Int)).arr clock)) mb < mapLen wr mb := by
  have hok := hWD.ok x hx
  have hkn : k < cells.length := by have := hok.hi; simp only at this; omega
  have hrm : r ≠ mb := fun e => hnr (e ▸ hWD.fm)
  have hrc : r ≠ cb := fun e => hnr (e ▸ hWD.fc)
  have hm1 : (W.drew.setCells cb (k * 65) (ccells (s, false))).heap[mb]? = some (.map (IMap.arr (l.map Ent.i)) clock) := by rw [heap_setCells_ne hWD.c_ne_m.symm]; exact hWD.hm
  have hlenl : (l.eraseP (fun y => y.key == (k : Int))).length = l.length - 1 := List.length_eraseP_of_mem hx (by simp [hk])
  have hpos : 0 < l.length := List.length_pos_of_mem hx
  have hblk : ∀ j, j ≠ cb → j ≠ mb → (setBlock (W.drew.setCells cb (k * 65) (ccells (s, false))) mb (.map (IMap.del (l.map Ent.i) (k : Int)).arr clock)).heap[j]? = W.heap[j]? := fun j h1 h2 => by
    rw [heap_setBlock_ne h2, heap_setCells_ne h1]; rfl
  have hsub : ∀ y ∈ l.eraseP (fun y => y.key == (k : Int)), y ∈ l := fun y hy => List.mem_of_mem_eraseP hy
  have hsl : (l.eraseP (fun y => y.key == (k : Int))).Sublist l := List.eraseP_sublist
  have hsz : (setBlock (W.drew.setCells cb (k * 65) (ccells (s, false))) mb (.map (IMap.del (l.map Ent.i) (k : Int)).arr clock)).heap.size = W.heap.size := by rw [size_setBlock, size_setCells]; rfl
  refine ⟨⟨l.eraseP (fun y => y.key == (k : Int)), cells.set k (s, false), seen.push x.born, ?_, ?_, ?_, ?_, ?_, hnr, ?_⟩, ?_⟩
  · have hb := hWD.hb
    have hc := hWD.hc
    simp only at hb hc
    refine { hb := ?_, hc := ?_, hm := ?_, ents := rfl, ok := ?_, apart := hWD.apart.sublist hsl, keys := hWD.keys.sublist (hsl.map _), borns := hWD.borns.sublist (hsl.map _), young := fun y hy => hWD.young y (hsub y hy), fb := hWD.fb, fc := hWD.fc, fm := hWD.fm,
             lt := fun j hj => by rw [hsz]; exact hWD.lt j hj, alo := hWD.alo, ahi := hWD.ahi, pos := by simpa using hWD.pos, len := by simpa using hWD.len }
    · rw [hblk b hWD.b_ne_c hWD.b_ne_m, hb]; simp
    · rw [heap_setBlock_ne hWD.c_ne_m]
      rw [heap_setCells_same (ccells (s, false)) (k * 65) W.drew (flatC cells) hc (by rw [length_flatC, length_ccells]; omega)]
      rw [flatC, flat_over ccells 65 length_ccells cells k (s, false) hkn]
      rfl
    · rw [heap_setBlock_same hm1, del_i]
    · intro y hy
      have hoky := hWD.ok y (hsub y hy)
      have hleny : 0 < y.secs.length := by have := hoky.ne; cases hs : y.secs <;> simp_all
      have := hoky.step (F' := F) (w' := setBlock (W.drew.setCells cb (k * 65) (ccells (s, false))) mb (.map (IMap.del (l.map Ent.i) (k : Int)).arr clock)) (fun _ h => h) (fun g hg => hblk g (row_ne hoky.own hleny hWD.hc (by intro C; simp) g hg) (row_ne hoky.own hleny hWD.hm (by intro C; simp) g hg))
      simpa using this
  · rw [hblk r hrc hrm]; exact hWr
  · intro y hy
    have hyl := hsub y hy
    have h1 := hseen y hyl
    have h2 : y.born ≠ x.born := by
      intro e
      have : y = x := born_unique hWD.borns hyl hx e
      rw [this] at hy
      have hno := find_eraseP_eq (k := (k : Int)) l hWD.keys
      have := List.find?_eq_none.1 hno x hy
      simp [hk] at this
    rw [Array.contains_push, h1]
    simpa using h2
  · simpa using hlen
  · rw [← hflush]
    apply List.ext_getElem
    · simp [Dsk.flush]
    · intro i h1 h2
      have hi : i < cells.length := by simpa [Dsk.flush] using h2
      simp only [Dsk.flush, List.getElem_map, List.getElem_zipIdx, Dsk.at, opn_find, Nat.zero_add]
      by_cases hik : i = k
      · subst hik
        rw [find_eraseP_eq l hWD.keys]
        have hf : l.find? (fun y => y.key == (i : Int)) = some x := by
          cases hf : l.find? (fun y => y.key == (i : Int)) with
          | none => exact absurd (List.find?_eq_none.1 hf x hx) (by simp [hk])
          | some y =>
            have h3 := List.mem_of_find?_eq_some hf
            have h4 := List.find?_some hf
            rw [key_unique hWD.keys h3 hx (by rw [hk]; simpa using h4)]
        rw [hf]
        subst hls
        simp [hok.ne]
      · rw [find_eraseP_ne (by omega) l]
        simp [List.getElem_set, Ne.symm hik]
  · refine Kp.setBlock (Kp.setCells (fun _ => hWD.fc) _ _ _ (Kp.drew ?_)) (fun _ => hWD.fm) _
    exact ⟨hWos.1.trans hKp.os, hWos.2.1.trans hKp.tape, hWos.2.2.trans hKp.output, Nat.le_trans hKp.size hWs, fun j hj hn => (hWo j (by omega)).trans (hKp.block j hj hn)⟩
  · have e1 : mapLen (setBlock (W.drew.setCells cb (k * 65) (ccells (s, false))) mb (.map (IMap.del (l.map Ent.i) (k : Int)).arr clock)) mb = l.length - 1 := by
      unfold mapLen
      rw [heap_setBlock_same hm1, del_i]
      simp [IMap.arr, IMap.es, hlenl]
    have e2 : mapLen wr mb = l.length := by
      unfold mapLen
      rw [hwm]
      simp [IMap.arr, IMap.es]
    omega
where
  born_unique {l : List Ent} (hn : (l.map (·.born)).Nodup) {x y : Ent} (hx : x ∈ l) (hy : y ∈ l) (h : x.born = y.born) : x = y := by
    induction l with
    | nil => simp at hx
    | cons a r ih =>
      simp only [List.map_cons, List.nodup_cons] at hn
      rcases List.mem_cons.1 hx with ex | hx'
      · rcases List.mem_cons.1 hy with ey | hy'
        · rw [ex, ey]
        · exact absurd (List.mem_map.2 ⟨y, hy', by rw [← h, ex]⟩) hn.1
      · rcases List.mem_cons.1 hy with ey | hy'
        · exact absurd (List.mem_map.2 ⟨x, hx', by rw [h, ey]⟩) hn.1
        · exact ih hn.2 hx' hy'

set_option maxRecDepth 100000 in
set_option maxHeartbeats 4000000 in
theorem sync_c (w : World) (b : Nat) (D : Dsk) (F : Nat → Prop) (h : IsDsk w b D F) :
    Calls Try.prog 21 #[.pointer (some ⟨b, 0, none⟩)] w fun e w' => e = .returned (.int .i64 D.syncE) ∧ IsDsk w' b D.sync F ∧ Kp F w w' := by
  by_cases hk : D.chk 0 = 0
  · by_cases hs : D.stpE = 0
    · have hE : D.syncE = 0 := by simp [Dsk.syncE, hk, hs]
      have hW : D.sync = { D.stp with cells := D.flush, opn := [] } := by simp [Dsk.sync, hk, hs]
      rw [hE, hW]
      have HK := Lib.hid hk
      have HS := Lib.hid hs
      clear hk hs hE hW
      have HW := Lib.hid h
      clear h
      go_enter Try.func21, Try.ntmps21
      go_wp2_with (first
        | (go_at_call 34; refine (check_c _ b D F HW.out 0).mono ?_; rintro e w' ⟨rfl, rfl⟩; rw [HK.out])
        | (go_at_call 39; refine (step_c _ b D F HW.out).mono ?_; rintro e w2 ⟨rfl, hD2, hk2, hsz2⟩; rw [HS.out]; obtain ⟨cb, mb, l, clock, hD⟩ := hD2; have hc1 := (dsk_cells hD).2.1; have HDD := Lib.hid hD; have HK2 := Lib.hid hk2; have HSZ2 := Lib.hid hsz2; clear hD hk2 hsz2; have hrange := run_range_map (P := Try.prog) w2 63 3 43 mb _ clock Try.underlying63 HDD.out.hm))
      have HR : Hid (DskAt (w2.alloc (.mapIter (some mb) clock #[] clock)) b cb mb l clock D.stp F) := Lib.hid (HDD.out.step (fun _ h => h) (fun k hk => Below.heap_alloc _ _ _ (HDD.out.lt k hk)) (fun k hk => by have := HDD.out.lt k hk; simp; omega))
      have hnr : ¬ F w2.heap.size := fun hf => absurd (HDD.out.lt _ hf) (Nat.lt_irrefl _)
      obtain ⟨r, hrdef⟩ : ∃ r, w2.heap.size = r := ⟨_, rfl⟩
      rw [hrdef] at hnr hrange ⊢
      have HRD := Lib.hid hrdef
      clear hrdef
      go_loopw [4] (fun _ wr => SyncAt w2 b cb mb r clock D.stp F wr) (fun _ wr => mapLen wr mb)
      case atStart =>
        refine ⟨l, D.stp.cells, #[], ?_, ?_, by simp, rfl, ?_, hnr, (Kp.refl _ _).alloc _⟩
        · have := HR.out; rw [HDD.out.ents]; exact this
        · rw [← HRD.out]; exact heap_alloc_new _ _
        · rw [HDD.out.ents]
      case round =>
        obtain ⟨l', cells, seen, hD, hr, hseen, hlen, hflush, -, hKp⟩ := hrel
        have hold : ∀ x ∈ (IMap.arr (l'.map Ent.i)).toList, x.born < clock := by
          intro x hx
          simp only [IMap.arr, IMap.es, List.map_map, List.mem_map] at hx
          obtain ⟨y, hy, rfl⟩ := hx
          exact hD.young y hy
        rcases run_next_at (P := Try.prog) wr 0 r mb clock clock seen _ clock hr hD.hm hold (Nat.le_refl _) with ⟨hz, hrun⟩ | ⟨e, he, w1, hw1, hrun⟩
        · have HF : Hid (l' = []) := by
            refine Lib.hid ?_
            cases hl : l' with
            | nil => rfl
            | cons x rest =>
              exfalso
              have hx := hseen x (by rw [hl]; simp)
              rw [hl] at hz
              have hm : ({ key := .int .i64 x.key, val := x.val, born := x.born } : MapEntry) ∈ leftOf (IMap.arr ((x :: rest).map Ent.i)) seen := by
                simp only [leftOf, Array.mem_filter, IMap.arr, IMap.es, List.mem_toArray, List.map_cons, List.mem_cons]
                exact ⟨.inl rfl, by simpa using hx⟩
              have := Array.eq_empty_of_size_eq_zero hz
              rw [this] at hm
              simp at hm
          have HD := Lib.hid hD
          have HFl := Lib.hid hflush
          have HKp := Lib.hid hKp
          clear hD hflush hKp hold hz hr hseen hrange hc1
          go_wp2
          go_ret
          have hl := HF.out
          have hD := HD.out
          have hfl := HFl.out
          rw [hl] at hD hfl
          have hcells : cells = D.flush := by
            have h1 : Dsk.flush D.stp = D.flush := by unfold Dsk.stp; split <;> rfl
            rw [← h1, ← hfl]
            simp [Dsk.flush, Dsk.at]
          refine ⟨rfl, ⟨cb, mb, [], clock, ?_⟩, ?_⟩
          · rw [← hcells]; exact hD
          · exact HK2.out.trans HKp.out (fun _ _ h => h)
        · obtain ⟨x, hx, rfl⟩ : ∃ x ∈ l', e = { key := .int .i64 x.key, val := x.val, born := x.born } := by
            have he' := (Array.mem_filter.1 (Array.mem_def.2 he)).1
            simp only [IMap.arr, IMap.es, List.map_map, List.mem_toArray, List.mem_map] at he'
            obtain ⟨x, hx, rfl⟩ := he'
            exact ⟨x, hx, rfl⟩
          simp only at hrun
          obtain ⟨W, hW⟩ : ∃ W, W = setBlock w1 r (.mapIter (some mb) clock (seen.push x.born) clock) := ⟨_, rfl⟩
          rw [← hW] at hrun
          have hw1h : ∀ k : Nat, w1.heap[k]? = wr.heap[k]? := by rcases hw1 with rfl | rfl <;> exact fun _ => rfl
          have hw1s : w1.heap.size = wr.heap.size := by rcases hw1 with rfl | rfl <;> rfl
          have hWr : W.heap[r]? = some (.mapIter (some mb) clock (seen.push x.born) clock) := by rw [hW]; exact heap_setBlock_same ((hw1h r).trans hr)
          have hWo : ∀ k : Nat, k ≠ r → W.heap[k]? = wr.heap[k]? := fun k hk => by rw [hW, heap_setBlock_ne hk]; exact hw1h k
          have hWD := hD.step (w' := W) (fun _ h => h) (fun k hk => hWo k (fun e => hnr (e ▸ hk))) (fun k hk => by rw [hW, size_setBlock, hw1s]; exact hD.lt k hk)
          have hent := run_entry_at (P := Try.prog) W r mb clock seen _ clock { key := .int .i64 x.key, val := x.val, born := x.born } hWr hWD.hm
            (by simp only [IMap.arr, IMap.es, List.map_map, List.mem_map]; exact ⟨x, hx, rfl⟩)
            (by have := hWD.borns; simpa [IMap.arr, IMap.es, Function.comp_def, Ent.i] using this)
          simp only at hent
          have hok := hWD.ok x hx
          have hlenx : 0 < x.secs.length := by have := hok.ne; cases hs : x.secs <;> simp_all
          obtain ⟨g, cap, hval, -, -⟩ := hok.own.form hlenx
          obtain ⟨m, hm⟩ : ∃ m, x.secs.length = m + 1 := ⟨x.secs.length - 1, by omega⟩
          have hown := hok.own
          rw [hval] at hrun hent hown
          have hrow := row_sec hown m (by omega)
          have hmcap : m + 1 ≤ maxLen := by
            rcases hown.2 with ⟨h, _⟩ | ⟨g', cap', cur, hv, _, _, h1, h2, _⟩
            · simp at h
            · simp at hv; omega
          unfold maxLen at hmcap
          obtain ⟨s, hs⟩ : ∃ s, s = x.secs[m] := ⟨_, rfl⟩
          rw [← hs] at hrow
          have hls : x.secs.getLastD zsec = s := by
            rw [hs, List.getLastD_eq_getLast?, List.getLast?_eq_getElem?]
            simp [hm]
          clear hs
          obtain ⟨k, hk⟩ := Int.eq_ofNat_of_zero_le hok.lo
          have hkn : k < cells.length := by have := hok.hi; simp only at this; omega
          rw [hk, hm] at hrun hent
          have hk0 : (0 : Int) ≤ (k : Int) := Int.natCast_nonneg _
          have hk1 : (k : Int) < (cells.length : Int) := by omega
          have hm0 : (0 : Int) ≤ (m : Int) := Int.natCast_nonneg _
          have hm1 : (m : Int) < ((m + 1 : Nat) : Int) := by omega
          have hsum : IntKind.i64.wrap (((m + 1 : Nat) : Int) - 1) = (m : Int) := by rw [IntWalk.i64_in _ (by omega)]; omega
          have hsum2 : IntKind.i64.wrap ((m : Int)) = (m : Int) := by rw [IntWalk.i64_in _ (by omega)]
          have hsum3 : IntKind.i64.wrap ((m : Int) + 1 - 1) = (m : Int) := by rw [IntWalk.i64_in _ (by omega)]; omega
          have hm2 : (m : Int) < (m : Int) + 1 := by omega
          have hthere : W.there cb (k * 65) 65 := there_of hWD.hc _ _ (by rw [length_flatC]; show k * 65 + 65 ≤ cells.length * 65; omega)
          have hc0 := (dsk_cells hWD).1
          have hu := Try.underlying33
          have hi := lenSec s
          have hu2 := Try.underlying73
          have hi2 := lenCell (s, false)
          have h12 := ccells_one (s, false)
          have h65 := length_ccells (s, false)
          have hb1 := (dsk_cells hWD).2.1
          have hdel := fun ty T' => run_delete_imap (P := Try.prog) Try.underlying63 Try.underlying3 (W.drew.setCells cb (k * 65) (ccells (s, false))) mb _ clock (by rw [heap_setCells_ne hWD.c_ne_m.symm]; exact hWD.hm) (k : Int) T' ty
          have hb2 : (W.drew.setCells cb (k * 65) (ccells (s, false))).cell? ⟨b, 1, none⟩ = some (.map (some mb)) := by
            rw [cell_of (by rw [heap_setCells_ne hWD.b_ne_c]; exact hWD.hb)]; rfl
          have HWD := Lib.hid hWD
          have HS1 := Lib.hid (And.intro hls (And.intro hk (And.intro hm hx)))
          have HWR := Lib.hid (And.intro hWr (And.intro hWo (And.intro hw1h hw1s)))
          have HW' := Lib.hid hW
          have HX := Lib.hid (And.intro hD (And.intro hr (And.intro hseen (And.intro hlen (And.intro hflush hKp)))))
          have HOK := Lib.hid (And.intro hok hval)
          have HW1 := Lib.hid hw1
          clear hls hk hm hWr hWo hw1h hw1s hW hD hr hseen hlen hflush hKp hWD hold hok hval hown hlenx he hw1 hrange hc1
          go_wp2
          refine wp_region_still_tail 13 (by kernel_rfl) (by kernel_rfl) ?_
          simp only [List.take_succ_cons, List.take_zero, List.drop_succ_cons, List.drop_zero]
          change wpStill _ _ W.drew _ _ _
          have hrow2 := (World.rangeAt_drew W g (m * 64) (bcells s)).2 hrow
          repeat (first
            | ((with_reducible show wpStill _ _ _ _ (Oper.mk _ (Op.load 33 _) _ _ _ _ :: _) _); refine still_loadA 33 _ rfl _ rfl g (m * 64) (by simp [Act.eval]) (bcells s) hrow2 hu rfl hi ?_)
            | ((with_reducible show wpStill _ _ _ _ (Oper.mk _ (Op.build _ _) _ _ _ _ :: _) _); refine still_buildA (av (ccells (s, false))) 73 rfl _ rfl #[(0, av (bcells s))] (by simp [Act.eval, Act.put]) (buildCell s _) ?_)
            | still_step)
          refine wpStill_nil ?_
          change wpList _ _ _ _ _ W.drew
          go_wp2_with (first
            | ((with_reducible show wpList _ _ _ (Oper.mk _ (Op.store 73 _ _) _ _ _ _ :: _) _ _); refine wpList_storeA 73 rfl _ _ rfl cb (k * 65) (ccells (s, false)) (by simp [Act.eval, Act.put]) (by simp [Act.eval, Act.put]) (by simpa using hthere) hi2 h12 ?_))
          obtain ⟨hls, hk, hm, hx⟩ := HS1.out
          obtain ⟨hWr, hWo, hw1h, hw1s⟩ := HWR.out
          obtain ⟨hD, hr, hseen, hlen, hflush, hKp⟩ := HX.out
          refine sync_round HWD.out hWr hseen hlen hflush hnr (Nat.le_of_eq HRD.out) hKp hWo ?_ ?_ hD.hm hx hk hls
          · rw [HW'.out, size_setBlock, hw1s]; exact Nat.le_refl _
          · rw [HW'.out]; rcases HW1.out with rfl | rfl <;> exact ⟨rfl, rfl, rfl⟩
    · have hs0 : D.after = 0 := by simp only [Dsk.stpE] at hs; split at hs <;> simp_all
      have hE0 : D.stpE = 220 := by simp [Dsk.stpE, hs0]
      have hE : D.syncE = 220 := by simp [Dsk.syncE, hk, hE0]
      have hW : D.sync = D.stp := by simp [Dsk.sync, hk, hE0]
      rw [hE, hW]
      have HK := Lib.hid hk
      have HS := Lib.hid hE0
      clear hk hs hs0 hE0 hE hW
      have HW := Lib.hid h
      clear h
      go_enter Try.func21, Try.ntmps21
      go_wp2_with (first
        | (go_at_call 34; refine (check_c _ b D F HW.out 0).mono ?_; rintro e w' ⟨rfl, rfl⟩; rw [HK.out])
        | (go_at_call 39; refine (step_c _ b D F HW.out).mono ?_; rintro e w2 ⟨rfl, hD2, hk2, hsz2⟩; rw [HS.out]; have HD2 := Lib.hid hD2; have HK2 := Lib.hid hk2; clear hD2 hk2 hsz2))
      go_ret
      exact ⟨rfl, HD2.out, HK2.out⟩
  · have hE : D.syncE = D.chk 0 := by simp [Dsk.syncE, hk]
    have hW : D.sync = D := by simp [Dsk.sync, hk]
    rw [hE, hW]
    generalize hc : D.chk 0 = c at *
    have hb : (c == 0) = false := by simpa using hk
    have hb' : (c != 0) = true := by simpa using hk
    have HC := Lib.hid hc
    clear hc hE hW
    go_enter Try.func21, Try.ntmps21
    go_wp2_with (first
      | (go_at_call 34; refine (check_c _ b D F h 0).mono ?_; rintro e w' ⟨rfl, rfl⟩; rw [HC.out]))
    go_ret
    exact ⟨rfl, h, Kp.refl _ _⟩

end Go.Proofs.Ytopeelclhpjngaa
