/- DiskStops returns true. -/
import Derived.Test.YtopeelclhpjngaaLawF
import Derived.Test.YtopeelclhpjngaaLawD
attribute [local go_sem ↓] Go.wp_at_zero Go.wp_at_succ
namespace Go.Proofs.Ytopeelclhpjngaa
set_option linter.unusedSimpArgs false
set_option linter.unusedVariables false
open Go Go.ChangeMaps Go.RowKit Go.Proofs

/-- Operations that came in: kind, A, B. -/
abbrev RefOp := Int × Int × Int
def opCells (x : RefOp) : List Value := [.int .i64 x.1, .int .i64 x.2.1, .int .i64 x.2.2]
@[simp] theorem length_opCells (x : RefOp) : (opCells x).length = 3 := rfl
def OpsIn (w : World) (v : Value) (xs : List RefOp) : Prop :=
  (xs = [] ∧ ∃ p c, v = .slice p 0 c) ∨ (xs ≠ [] ∧ ∃ g o c, v = .slice (some ⟨g, o, none⟩) xs.length c ∧ w.rangeAt g o (xs.flatMap opCells))
theorem OpsIn.kept {w w' : World} {v : Value} {xs : List RefOp} (h : OpsIn w v xs) (hk : Kp (fun _ => False) w w') : OpsIn w' v xs := by
  rcases h with h | ⟨h0, g, o, c, h1, h2⟩
  · exact .inl h
  · refine .inr ⟨h0, g, o, c, h1, fun j u hu => ?_⟩
    have := h2 j u hu
    rw [← this]
    have hlt := World.block_lt_of_cell? _ _ this
    have hb := hk.block _ hlt (fun h => h)
    simp only [World.cell?, hb]
theorem OpsIn.len {w : World} {v : Value} {xs : List RefOp} (h : OpsIn w v xs) : ∃ p c, v = .slice p xs.length c := by
  rcases h with ⟨h0, p, c, h1⟩ | ⟨_, g, o, c, h1, _⟩
  · exact ⟨p, c, by rw [h1, h0]; rfl⟩
  · exact ⟨_, c, h1⟩
theorem OpsIn.at {w : World} {v : Value} {xs : List RefOp} (h : OpsIn w v xs) (i : Nat) (x : RefOp) (hx : xs[i]? = some x) : ∃ g o c, v = .slice (some ⟨g, o, none⟩) xs.length c ∧ w.rangeAt g (o + i * 3) (opCells x) := by
  have hi := (List.getElem?_eq_some_iff.1 hx).1
  rcases h with ⟨h0, _⟩ | ⟨_, g, o, c, h1, h2⟩
  · rw [h0] at hi; simp at hi
  · refine ⟨g, o, c, h1, fun j u hu => ?_⟩
    have hf := flat_at opCells 3 length_opCells xs i hi
    have hxi : xs[i] = x := (List.getElem?_eq_some_iff.1 hx).2
    rw [hxi] at hf
    have hj : j < 3 := by have := (List.getElem?_eq_some_iff.1 hu).1; simpa using this
    have h3 : (xs.flatMap opCells)[i * 3 + j]? = some u := by
      rw [← hu, ← hf, List.getElem?_take, if_pos hj, List.getElem?_drop]
    have := h2 (i * 3 + j) u h3
    rw [Nat.add_assoc]
    exact this
theorem Ints.len {w : World} {v : Value} {xs : List Int} (h : Ints w v xs) : ∃ p c, v = .slice p xs.length c := by
  rcases h with ⟨h0, p, c, h1⟩ | ⟨_, g, o, c, h1, _⟩
  · exact ⟨p, c, by rw [h1, h0]; rfl⟩
  · exact ⟨_, c, h1⟩

theorem San.allocM {wz w : World} {b : Nat} {D : Dsk} {vs : List (Nat × Obj)} (h : San wz w b D vs) : San wz (w.alloc (.map #[] 0)) b D ((w.heap.size, mO [] 0) :: vs) := by
  obtain ⟨F, hI, hF, hv, hK⟩ := h
  refine ⟨F, hI.alloc _, hF, fun p hp => ?_, hK.alloc _⟩
  rcases List.mem_cons.1 hp with rfl | hp
  · exact ⟨by rw [heap_alloc_new w _]; rfl, fun hf => Nat.lt_irrefl _ (hI.lt _ hf), hK.size⟩
  · exact ⟨(Below.heap_alloc _ _ _ (lt_of_heap (hv p hp).1)).trans (hv p hp).1, (hv p hp).2⟩
/-- A variable that holds an operation. -/
def oOp (x : RefOp) : Obj := .cells (opCells x).toArray 29 (0, 0)
theorem lenOp (x : RefOp) : (Try.prog.info? 29).map (·.size) = some (opCells x).length := by kernel_rfl
theorem zeroOp (w : World) : (zeroValue 29).run Try.prog w = .ok (av (opCells (0, 0, 0))) w := by kernel_rfl
theorem opCells_one (x : RefOp) : ∀ v ∈ opCells x, v.oneCell' = true := by
  intro v hv
  simp only [opCells, List.mem_cons, List.not_mem_nil, or_false] at hv
  rcases hv with rfl | rfl | rfl <;> rfl
theorem San.freshOp {wz w : World} {b : Nat} {D : Dsk} {vs : List (Nat × Obj)} (h : San wz w b D vs) (x : RefOp) :
    San wz ((w.alloc (.cells (opCells (0, 0, 0)).toArray 29)).setCells w.heap.size 0 (opCells x)) b D ((w.heap.size, oOp x) :: vs) := by
  refine (h.alloc _ _).set (Kp.setCells (F := fun k => k = _) (fun _ => rfl) _ _ _ (Kp.refl _ _)) (heap_fill (heap_alloc_new w _) (by simp)) (fun p hp e => ?_)
  have := lt_of_heap (h.var p hp)
  omega
theorem th_freshOp (w : World) (x : RefOp) : (w.alloc (.cells (opCells (0, 0, 0)).toArray 29)).there w.heap.size 0 (opCells x).length := there_of (heap_alloc_new w _) 0 _ (by simp)
theorem San.op {wz w : World} {b r : Nat} {D : Dsk} {vs : List (Nat × Obj)} {x : RefOp} (h : San wz w b D vs) (hp : (r, oOp x) ∈ vs) :
    w.cell? ⟨r, 0, none⟩ = some (.int .i64 x.1) ∧ w.cell? ⟨r, 1, none⟩ = some (.int .i64 x.2.1) ∧ w.cell? ⟨r, 2, none⟩ = some (.int .i64 x.2.2) := by
  have hv := h.var _ hp
  exact ⟨(cell_of hv _).trans rfl, (cell_of hv _).trans rfl, (cell_of hv _).trans rfl⟩

theorem San.allocI {wz w : World} {b : Nat} {D : Dsk} {vs : List (Nat × Obj)} (h : San wz w b D vs) (nb nc : Nat) : San wz (w.alloc (.mapIter (some nb) nc #[] nc)) b D ((w.heap.size, .mapIter (some nb) nc #[] nc) :: vs) := by
  obtain ⟨F, hI, hF, hv, hK⟩ := h
  refine ⟨F, hI.alloc _, hF, fun p hp => ?_, hK.alloc _⟩
  rcases List.mem_cons.1 hp with rfl | hp
  · exact ⟨by rw [heap_alloc_new w _], fun hf => Nat.lt_irrefl _ (hI.lt _ hf), hK.size⟩
  · exact ⟨(Below.heap_alloc _ _ _ (lt_of_heap (hv p hp).1)).trans (hv p hp).1, (hv p hp).2⟩
theorem born_unique {l : SMap} (h : (l.map (·.2.2)).Nodup) {x y : Int × Sec × Nat} (hx : x ∈ l) (hy : y ∈ l) (e : x.2.2 = y.2.2) : x.1 = y.1 := by
  induction l with
  | nil => simp at hx
  | cons a r ih =>
    simp only [List.map_cons, List.nodup_cons] at h
    rcases List.mem_cons.1 hx with hx | hx <;> rcases List.mem_cons.1 hy with hy | hy
    · rw [hx, hy]
    · exact absurd (List.mem_map.2 ⟨y, hy, by rw [← e, hx]⟩) h.1
    · exact absurd (List.mem_map.2 ⟨x, hx, by rw [e, hy]⟩) h.1
    · exact ih h.2 hx hy
theorem look_sec (w : World) (sb : Nat) (sl : SMap) (sc k : Nat) (h : w.heap[sb]? = some (mO sl sc)) : (Instr.lookup 53 (.map (some sb)) (.int .i64 (k : Int)) false).run Try.prog w = .ok (bv ((sl.get k).getD zsec)) w := by
  have := run_lookup_imap Try.underlying53 Try.underlying3 w sb sl.i sc h (k : Int) (av (bcells zsec)) (zeroSec w)
  rw [SMap.get_i] at this
  rw [this]
  cases sl.get k <;> rfl
theorem look_sec_ok (w : World) (sb : Nat) (sl : SMap) (sc k : Nat) (h : w.heap[sb]? = some (mO sl sc)) : (Instr.lookup 53 (.map (some sb)) (.int .i64 (k : Int)) true).run Try.prog w = .ok (.tuple #[bv ((sl.get k).getD zsec), .bool (sl.get k).isSome]) w := by
  have := run_lookup_imap_ok Try.underlying53 Try.underlying3 w sb sl.i sc h (k : Int) (av (bcells zsec)) (zeroSec w)
  rw [SMap.get_i] at this
  rw [this]
  cases sl.get k <;> rfl
/-- The last loop of DiskStops under way. -/
def StopEnd (wz : World) (b : Nat) (D : Dsk) (sb nb : Nat) (sl nl : SMap) (sc nc : Nat) (i : Value) (w : World) : Prop :=
  ∃ k : Nat, i = .int .i64 k ∧ k ≤ 16 ∧ San wz w b D [(sb, mO sl sc), (nb, mO nl nc)]
/-- The loop that copies what is now into what is sure, under way. -/
def CopyAt (wz : World) (b : Nat) (D : Dsk) (sb nb r : Nat) (sl nl : SMap) (nc : Nat) (w : World) : Prop :=
  ∃ (sl' : SMap) (sc' : Nat) (seen : Array Nat), San wz w b D [(sb, mO sl' sc'), (nb, mO nl nc), (r, .mapIter (some nb) nc seen nc)] ∧ SMap.Ok sl' sc' ∧
    ∀ k, (∀ s, nl.get k = some s → (∃ x ∈ nl, x.1 = k ∧ seen.contains x.2.2 = true) → sl'.get k = some s) ∧ ((¬ ∃ x ∈ nl, x.1 = k ∧ seen.contains x.2.2 = true) → sl'.get k = sl.get k)

/-- The loop of DiskStops under way. -/
def StopAt (wz : World) (b sb : Nat) (n L : Nat) (nv i : Value) (w : World) : Prop :=
  ∃ (m : Nat) (D : Dsk) (sl nl : SMap) (sc nc nb : Nat), i = .int .i64 m ∧ m ≤ L ∧ nv = .map (some nb) ∧ sb ≠ nb ∧ San wz w b D [(sb, mO sl sc), (nb, mO nl nc)] ∧ SMap.Ok sl sc ∧ SMap.Ok nl nc ∧ StopInv n m D sl.get nl.get

set_option maxRecDepth 100000 in
set_option maxHeartbeats 4000000 in
theorem stops_c (w : World) (lv kv : Value) (xs : List RefOp) (ks : List Int) (n : Nat) (hn : n ≤ 255) (hxs : OpsIn w lv xs) (hks : Ints w kv ks) (hl : xs.length ≤ 40) (hk : ks.length ≤ 20) :
    Calls Try.prog 5 #[lv, .int .u8 n, kv] w fun e w' => e = .returned (.bool true) ∧ Kp (fun _ => False) w w' := by
  obtain ⟨pl, cl, rfl⟩ := hxs.len
  obtain ⟨pk, ck, rfl⟩ := hks.len
  have HXS := Lib.hid (And.intro hxs hks)
  have hcv : IntKind.i64.wrap (n : Int) = (n : Int) := IntWalk.i64_in _ (by omega)
  have h40 : ¬ (40 : Int) < (xs.length : Int) := by omega
  have h20 : ¬ (20 : Int) < (ks.length : Int) := by omega
  have HN := Lib.hid hn
  clear hxs hks hn
  have hmm := @run_makeMap Try.prog
  go_enter Try.func5, Try.ntmps5
  go_wp2_with (first
    | ((with_reducible show wpList _ _ _ (Oper.mk _ _ _ _ _ (some _) :: _) _ _); refine wpList_guarded (by rfl) ?_)
    | (go_at_call 7; refine (San.new (wz := w) (Kp.refl _ w) [] (by simp) 16 (by omega) (by omega)).mono ?_; rintro e w1 ⟨b, rfl, h1⟩; have H1 := Lib.hid h1; clear h1)
    | (go_at_call 20; refine (H1.out.arm n (by have := HN.out; omega)).mono ?_; rintro e w2 ⟨rfl, h2⟩; have H2 := Lib.hid h2; clear h2))
  have H3 := Lib.hid (H2.out.allocM.allocM)
  simp only [World.size_alloc] at H3
  have HI0 := Lib.hid (StopInv.new n)
  obtain ⟨sb, hsb⟩ : ∃ sb, sb = w2.heap.size := ⟨_, rfl⟩
  rw [← hsb] at H3 ⊢
  generalize (w2.alloc (.map #[] 0)).alloc (.map #[] 0) = w3 at *
  have hRel : StopAt w b sb n xs.length (.map (some (sb + 1))) (.int .i64 (0 : Nat)) w3 :=
    ⟨0, _, [], [], 0, 0, sb + 1, rfl, Nat.zero_le _, rfl, by omega, H3.out.sub (by intro p hp; simp only [List.mem_cons, List.not_mem_nil, or_false] at hp ⊢; rcases hp with h | h <;> simp [h]), SMap.ok_nil, SMap.ok_nil, HI0.out⟩
  have HRel := Lib.hid hRel
  clear hRel hsb hmm
  go_loopw [9, 44] (fun nv i wr => StopAt w b sb n xs.length nv i wr) (fun _ i _ => xs.length - (intOf i).toNat)
  case atStart => exact HRel.out
  case round =>
    obtain ⟨m, D, sl, nl, sc, nc, nb, rfl, hm, rfl, hne, hS, hsok, hnok, hinv⟩ := hrel
    by_cases hlt : m < xs.length
    · obtain ⟨x, hx⟩ : ∃ x, xs[m]? = some x := ⟨_, List.getElem?_eq_getElem hlt⟩
      obtain ⟨g, o, c, hpl, hrange⟩ := (HXS.out.1.kept hS.kp).at m x hx
      injection hpl with hpl hlen0 hcl
      subst hpl
      subst hcl
      clear hlen0
      obtain ⟨K, A, B⟩ := x
      have hA1 := Int.lt_tmod_of_pos A (show (0 : Int) < 16 by omega)
      have hA2 := Int.tmod_lt_of_pos A (show (0 : Int) < 16 by omega)
      obtain ⟨q, hq⟩ : ∃ q, A.tmod 16 = q := ⟨_, rfl⟩
      rw [hq] at hA1 hA2
      obtain ⟨kk, hkk⟩ : ∃ kk, (q + 16).tmod 16 = kk := ⟨_, rfl⟩
      have hk1 : 0 ≤ kk := by rw [← hkk]; exact Int.tmod_nonneg _ (by omega)
      have hk2 : kk < 16 := by rw [← hkk]; exact Int.tmod_lt_of_pos _ (by omega)
      have hkk' : (q + 16) % 16 = kk := by rw [← hkk, Int.tmod_eq_emod_of_nonneg (by omega)]
      obtain ⟨t, ht⟩ : ∃ t, K.tmod 3 = t := ⟨_, rfl⟩
      have hm0 : (0 : Int) ≤ (m : Int) := by omega
      have hm1 : (m : Int) < (xs.length : Int) := by omega
      have HX := Lib.hid (And.intro hS (And.intro hsok (And.intro hnok (And.intro hinv (And.intro hne (And.intro hlt hrange))))))
      have HKK := Lib.hid (And.intro hk1 hk2)
      clear hS hsok hnok hinv hne hrange hx hlt hm
      by_cases him : m < n
      · have hmn : (m : Int) < (n : Int) := by omega
        by_cases ht0 : t = 0
        · have hb : (t == 0) = true := by simpa using ht0
          have HE := Lib.hid (HX.out.2.2.2.1.sync_yes him HN.out)
          clear ht0 him
          have hmm := @run_makeMap Try.prog
          go_wp2_with (first
            | ((with_reducible show wpList _ _ _ (Oper.mk _ _ _ _ _ (some _) :: _) _ _); refine wpList_guarded (by rfl) ?_)
            | ((with_reducible show wpList _ _ _ (Oper.mk _ (Op.load 29 _) _ _ _ _ :: _) _ _); refine wpList_loadA 29 _ rfl _ rfl g (o + m * 3) (by rfl) (opCells (K, A, B)) HX.out.2.2.2.2.2.2 Try.underlying29 rfl (lenOp _) ?_)
            | ((with_reducible show wpList _ _ _ (Oper.mk _ (Op.alloc 29) _ _ _ _ :: _) _ _); refine wpList_allocA 29 rfl rfl (opCells (0, 0, 0)) zeroOp ?_)
            | ((with_reducible show wpList _ _ _ (Oper.mk _ (Op.store 29 _ _) _ _ _ _ :: _) _ _); refine wpList_storeA 29 rfl _ _ rfl wr.heap.size 0 (opCells (K, A, B)) (by rfl) (by rfl) (th_freshOp wr _) (lenOp _) (opCells_one _) ?_; have HA := Lib.hid (HX.out.1.freshOp (K, A, B)); generalize hwa : (wr.alloc (.cells (opCells (0, 0, 0)).toArray 29)).setCells wr.heap.size 0 (opCells (K, A, B)) = wa at *; clear hwa; obtain ⟨hcK, hcA, hcB⟩ := HA.out.op (.head _))
            | (go_at_call 21; (with_reducible show Calls _ _ _ wa _); refine (HA.out.sync).mono ?_; rintro e w5 ⟨rfl, h⟩; have H5 := Lib.hid h; clear h hcK hcA hcB; rw [HE.out.1]; have hrange := run_range_map (P := Try.prog) w5 53 3 33 nb _ nc Try.underlying53 (H5.out.var (nb, mO nl nc) (.tail _ (.tail _ (.head _))))))
          clear hrange
          obtain ⟨r, hr⟩ : ∃ r, r = w5.heap.size := ⟨_, rfl⟩
          have H6 := Lib.hid ((H5.out.sub (us := [(sb, mO sl sc), (nb, mO nl nc)]) (fun p hp => .tail _ hp)).allocI nb nc)
          rw [← hr] at H6 ⊢
          generalize w5.alloc (.mapIter (some nb) nc #[] nc) = w6 at *
          have hnbr : nb ≠ r ∧ sb ≠ r := by
            have h1 := H5.out.lt (nb, mO nl nc) (.tail _ (.tail _ (.head _)))
            have h2 := H5.out.lt (sb, mO sl sc) (.tail _ (.head _))
            simp at h1 h2
            omega
          have HR := Lib.hid hnbr
          clear hr hnbr
          go_loopw [14] (fun _ wr => CopyAt w b D.sync sb nb r sl nl nc wr) (fun _ wr => wr.rangeLeft nb r)
          case atStart =>
            exact ⟨sl, sc, #[], H6.out.sub (by intro p hp; simp only [List.mem_cons, List.not_mem_nil, or_false] at hp ⊢; rcases hp with h | h | h <;> simp [h]), HX.out.2.1, fun k => ⟨fun s _ h => by obtain ⟨x, _, _, h⟩ := h; simp at h, fun _ => rfl⟩⟩
          case round =>
            obtain ⟨sl', sc', seen, hS, hsok, hcp⟩ := hrel
            have hnm := hS.var (nb, mO nl nc) (.tail _ (.head _))
            have hri := hS.var (r, .mapIter (some nb) nc seen nc) (.tail _ (.tail _ (.head _)))
            have hold : ∀ y ∈ (IMap.arr nl.i).toList, y.born < nc := by
              intro y hy
              simp only [IMap.arr, IMap.es, SMap.i, List.map_map, List.mem_map] at hy
              obtain ⟨x, hx, rfl⟩ := hy
              exact HX.out.2.2.1.young x hx
            have hleft : wr.rangeLeft nb r = (leftOf (IMap.arr nl.i) seen).size := by simp only [World.rangeLeft, hnm, hri, mO]
            rcases run_next_at (P := Try.prog) wr 0 r nb nc nc seen _ nc hri hnm hold (Nat.le_refl _) with ⟨hz, hrun⟩ | ⟨e, he, w1, hw1, hrun⟩
            · have hall : ∀ x ∈ nl, seen.contains x.2.2 = true := by
                intro x hx
                cases hc : seen.contains x.2.2 with
                | true => rfl
                | false =>
                  exfalso
                  have hm : ({ key := .int .i64 x.1, val := bv x.2.1, born := x.2.2 } : MapEntry) ∈ leftOf (IMap.arr nl.i) seen := by
                    simp only [leftOf, Array.mem_filter, IMap.arr, IMap.es, SMap.i, List.mem_toArray, List.map_map, List.mem_map]
                    exact ⟨⟨x, hx, rfl⟩, by rw [hc]; rfl⟩
                  rw [Array.eq_empty_of_size_eq_zero hz] at hm
                  simp at hm
              have hget : (fun j => if (nl.get j).isSome then nl.get j else sl.get j) = sl'.get := by
                funext j
                cases hj : nl.get j with
                | none =>
                  refine ((hcp j).2 (fun ⟨x, hx, hxj, _⟩ => ?_)).symm
                  have := SMap.get_mem HX.out.2.2.1.keys hx
                  rw [hxj, hj] at this
                  cases this
                | some s =>
                  obtain ⟨x, hx, hxj, _⟩ := SMap.mem_get hj
                  exact ((hcp j).1 s hj ⟨x, hx, hxj, hall x hx⟩).symm
              have HF := Lib.hid (And.intro hS (And.intro hsok hget))
              clear hS hsok hget hcp hnm hri hold hleft hall hz
              go_wp2_with (first
                | ((with_reducible show wpList _ _ _ (Oper.mk _ _ _ _ _ (some _) :: _) _ _); refine wpList_guarded (by rfl) ?_))
              go_roundw
              case rel =>
                refine ⟨m + 1, D.sync, sl', [], sc', 0, _, by simp, HX.out.2.2.2.2.2.1, rfl, ?_, HF.out.1.allocM.sub (us := [(sb, mO sl' sc'), (wr.heap.size, mO [] 0)]) ?_, HF.out.2.1, SMap.ok_nil, ?_⟩
                · have := HF.out.1.lt (sb, mO sl' sc') (.head _)
                  simp at this; omega
                · intro p hp; simp only [List.mem_cons, List.not_mem_nil, or_false] at hp ⊢; rcases hp with h | h <;> simp [h]
                · have := HE.out.2
                  rw [HF.out.2.2] at this
                  exact this
              case measure => exact measure_next HX.out.2.2.2.2.2.1 _ _ rfl rfl
            · obtain ⟨x, hx, rfl⟩ : ∃ x ∈ nl, e = { key := .int .i64 x.1, val := bv x.2.1, born := x.2.2 } := by
                have he' := (Array.mem_filter.1 (Array.mem_def.2 he)).1
                simp only [IMap.arr, IMap.es, SMap.i, List.map_map, List.mem_toArray, List.mem_map] at he'
                obtain ⟨x, hx, rfl⟩ := he'
                exact ⟨x, hx, rfl⟩
              have hsx : seen.contains x.2.2 = false := by
                have he' := (Array.mem_filter.1 (Array.mem_def.2 he)).2
                simpa using he'
              simp only at hrun
              obtain ⟨W, hW⟩ : ∃ W, W = setBlock w1 r (.mapIter (some nb) nc (seen.push x.2.2) nc) := ⟨_, rfl⟩
              rw [← hW] at hrun
              have hk1 : Kp (fun _ => False) wr w1 := by rcases hw1 with rfl | rfl; exact Kp.refl _ _; exact (Kp.refl _ _).drew
              have hSW : San w W b D.sync [(sb, mO sl' sc'), (nb, mO nl nc), (r, .mapIter (some nb) nc (seen.push x.2.2) nc)] := by
                have h1 := (hS.quiet hk1).sub (us := [(r, .mapIter (some nb) nc seen nc), (sb, mO sl' sc'), (nb, mO nl nc)]) (by intro p hp; simp only [List.mem_cons, List.not_mem_nil, or_false] at hp ⊢; rcases hp with h | h | h <;> simp [h])
                rw [hW]
                have h2 := h1.set (o' := .mapIter (some nb) nc (seen.push x.2.2) nc) ((Kp.refl (fun k => k = r) w1).setBlock (fun _ => rfl) _) (heap_setBlock_same (h1.var (r, .mapIter (some nb) nc seen nc) (.head _))) (by
                  intro p hp
                  simp only [List.mem_cons, List.not_mem_nil, or_false] at hp
                  rcases hp with rfl | rfl
                  · exact HR.out.2
                  · exact HR.out.1)
                exact h2.sub (by intro p hp; simp only [List.mem_cons, List.not_mem_nil, or_false] at hp ⊢; rcases hp with h | h | h <;> simp [h])
              have hent := run_entry_at (P := Try.prog) W r nb nc seen _ nc { key := .int .i64 x.1, val := bv x.2.1, born := x.2.2 } (hSW.var (r, .mapIter (some nb) nc (seen.push x.2.2) nc) (.tail _ (.tail _ (.head _)))) (hSW.var (nb, mO nl nc) (.tail _ (.head _)))
                (by simp only [IMap.arr, IMap.es, SMap.i, List.map_map, List.mem_map]; exact ⟨x, hx, rfl⟩)
                (by have := HX.out.2.2.1.borns; simpa [IMap.arr, IMap.es, SMap.i, Function.comp_def] using this)
              simp only at hent
              have hmeas : (leftOf (IMap.arr nl.i) (seen.push x.2.2)).size < (leftOf (IMap.arr nl.i) seen).size := left_less _ seen x.2.2 ⟨{ key := .int .i64 x.1, val := bv x.2.1, born := x.2.2 }, by simp only [IMap.arr, IMap.es, SMap.i, List.map_map, List.mem_toArray, List.mem_map]; exact ⟨x, hx, rfl⟩, rfl, hsx⟩
              have hcp' : ∀ k, (∀ s, nl.get k = some s → (∃ y ∈ nl, y.1 = k ∧ (seen.push x.2.2).contains y.2.2 = true) → (sl'.put x.1 x.2.1 sc').get k = some s) ∧ ((¬ ∃ y ∈ nl, y.1 = k ∧ (seen.push x.2.2).contains y.2.2 = true) → (sl'.put x.1 x.2.1 sc').get k = sl.get k) := by
                intro k
                rw [SMap.get_put]
                have hxg := SMap.get_mem HX.out.2.2.1.keys hx
                refine ⟨fun s hs hy => ?_, fun hno => ?_⟩
                · by_cases hk : k = x.1
                  · subst hk
                    rw [if_pos rfl, ← hxg, hs]
                  · rw [if_neg hk]
                    obtain ⟨y, hy, hyk, hyc⟩ := hy
                    refine (hcp k).1 s hs ⟨y, hy, hyk, ?_⟩
                    rw [Array.contains_push] at hyc
                    rcases Bool.or_eq_true _ _ |>.mp hyc with h | h
                    · exact h
                    · exfalso
                      have hb : y.2.2 = x.2.2 := by simpa using h
                      exact hk (by rw [← hyk, born_unique HX.out.2.2.1.borns hy hx hb])
                · have hk : ¬ k = x.1 := fun e => hno ⟨x, hx, e.symm, by simp [Array.contains_push]⟩
                  rw [if_neg hk]
                  refine (hcp k).2 (fun ⟨y, hy, hyk, hyc⟩ => hno ⟨y, hy, hyk, ?_⟩)
                  rw [Array.contains_push, hyc]; rfl
              have HF := Lib.hid (And.intro hSW (And.intro hsok (And.intro hcp' (And.intro hleft hmeas))))
              clear hS hsok hcp hcp' hnm hri hold hleft hmeas hsx he hw1 hk1 hW hSW hx
              go_wp2_with (first
                | ((with_reducible show wpList _ _ _ (Oper.mk _ (Op.alloc 33) _ _ _ _ :: _) _ _); refine wpList_allocA 33 rfl rfl (bcells zsec) zeroSec ?_)
                | ((with_reducible show wpList _ _ _ (Oper.mk _ (Op.store 33 (Operand.tmp 15) _) _ _ _ _ :: _) _ _); refine wpList_storeA 33 rfl _ _ rfl W.heap.size 0 (bcells x.2.1) (by rfl) (by rfl) (th_fresh W x.2.1) (lenSec _) (bcells_one _) ?_; have HG := Lib.hid (HF.out.1.fresh x.2.1); generalize hw : (W.alloc (.cells (bcells zsec).toArray 33)).setCells W.heap.size 0 (bcells x.2.1) = W2 at *; clear hw; have hupd := run_update_imap Try.underlying53 Try.underlying3 W2 sb sl'.i sc' (HG.out.var (sb, mO sl' sc') (.tail _ (.head _))) x.1 (av (bcells x.2.1)))
                | ((with_reducible show wpList _ _ _ (Oper.mk _ (Op.load 33 (Operand.tmp 15)) _ _ _ _ :: _) _ _); refine wpList_loadA 33 _ rfl _ rfl W.heap.size 0 (by rfl) (bcells x.2.1) (HG.out.rd (.head _)) Try.underlying33 rfl (lenSec _) ?_))
              have hput : (.map ((sl'.i.put x.1 (av (bcells x.2.1)) sc').arr) (IMap.tick sl'.i x.1 sc') : Obj) = mO (sl'.put x.1 x.2.1 sc') (IMap.tick sl'.i x.1 sc') := by rw [← bv_av, SMap.put_i]; rfl
              try rw [hput]
              have HH : Hid (San w (setBlock W2 sb (mO (sl'.put x.1 x.2.1 sc') (IMap.tick sl'.i x.1 sc'))) b D.sync [(sb, mO (sl'.put x.1 x.2.1 sc') (IMap.tick sl'.i x.1 sc')), (nb, mO nl nc), (r, .mapIter (some nb) nc (seen.push x.2.2) nc)]) := by
                refine Lib.hid ?_
                have h1 := HG.out.sub (us := [(sb, mO sl' sc'), (nb, mO nl nc), (r, .mapIter (some nb) nc (seen.push x.2.2) nc)]) (fun p hp => .tail _ hp)
                exact h1.set ((Kp.refl (fun k => k = sb) W2).setBlock (fun _ => rfl) _) (heap_setBlock_same (h1.var (sb, mO sl' sc') (.head _))) (by
                  intro p hp
                  simp only [List.mem_cons, List.not_mem_nil, or_false] at hp
                  rcases hp with rfl | rfl
                  · exact fun e => HX.out.2.2.2.2.1 e.symm
                  · exact fun e => HR.out.2 e.symm)
              generalize setBlock W2 sb (mO (sl'.put x.1 x.2.1 sc') (IMap.tick sl'.i x.1 sc')) = W3 at *
              go_roundw
              case rel => exact ⟨_, _, _, HH.out, HF.out.2.1.put x.1 x.2.1, HF.out.2.2.1⟩
              case measure =>
                have h1 : W3.rangeLeft nb r = (leftOf (IMap.arr nl.i) (seen.push x.2.2)).size := by
                  simp only [World.rangeLeft, HH.out.var (nb, mO nl nc) (.tail _ (.head _)), HH.out.var (r, .mapIter (some nb) nc (seen.push x.2.2) nc) (.tail _ (.tail _ (.head _))), mO]
                rw [h1, HF.out.2.2.2.1]
                exact HF.out.2.2.2.2
        · have hb : (t == 0) = false := by simpa using ht0
          have HE := Lib.hid (HX.out.2.2.2.1.write_yes him HN.out kk HKK.out.1 HKK.out.2 (filled B))
          have HSM : Hid (∀ p ∈ D.opn, p.2.length < 1073741824) := Lib.hid (fun p hp => by have := HX.out.2.2.2.1.small p hp; have := HX.out.2.2.2.2.2.1; omega)
          clear ht0 him
          go_wp2_with (first
            | ((with_reducible show wpList _ _ _ (Oper.mk _ _ _ _ _ (some _) :: _) _ _); refine wpList_guarded (by rfl) ?_)
            | ((with_reducible show wpList _ _ _ (Oper.mk _ (Op.load 29 _) _ _ _ _ :: _) _ _); refine wpList_loadA 29 _ rfl _ rfl g (o + m * 3) (by rfl) (opCells (K, A, B)) HX.out.2.2.2.2.2.2 Try.underlying29 rfl (lenOp _) ?_)
            | ((with_reducible show wpList _ _ _ (Oper.mk _ (Op.alloc 29) _ _ _ _ :: _) _ _); refine wpList_allocA 29 rfl rfl (opCells (0, 0, 0)) zeroOp ?_)
            | ((with_reducible show wpList _ _ _ (Oper.mk _ (Op.store 29 _ _) _ _ _ _ :: _) _ _); refine wpList_storeA 29 rfl _ _ rfl wr.heap.size 0 (opCells (K, A, B)) (by rfl) (by rfl) (th_freshOp wr _) (lenOp _) (opCells_one _) ?_; have HA := Lib.hid (HX.out.1.freshOp (K, A, B)); generalize hwa : (wr.alloc (.cells (opCells (0, 0, 0)).toArray 29)).setCells wr.heap.size 0 (opCells (K, A, B)) = wa at *; clear hwa; obtain ⟨hcK, hcA, hcB⟩ := HA.out.op (.head _))
            | (go_at_call 23; (with_reducible show Calls _ _ _ wa _); refine (filled_c wa B).mono ?_; rintro e w4 ⟨rfl, h⟩; have H4 := Lib.hid (HA.out.quiet h); clear h hcK hcA hcB)
            | (go_at_call 22; (with_reducible show Calls _ _ _ w4 _); refine (H4.out.write kk (filled B) HSM.out).mono ?_; rintro e w5 ⟨rfl, h⟩; have H5 := Lib.hid h; clear h; rw [HE.out.1]; obtain ⟨hcK, hcA, hcB⟩ := H5.out.op (.head _))
            | (go_at_call 23; (with_reducible show Calls _ _ _ w5 _); refine (filled_c w5 B).mono ?_; rintro e w6 ⟨rfl, h⟩; have H6 := Lib.hid (H5.out.quiet h); clear h hcK hcA hcB; have hupd := run_update_imap Try.underlying53 Try.underlying3 w6 nb nl.i nc (H6.out.var (nb, mO nl nc) (.tail _ (.tail _ (.head _)))) kk (bv (filled B))))
          have H7 : Hid (San w (setBlock w6 nb (mO (nl.put kk (filled B) nc) (IMap.tick nl.i kk nc))) b (D.write kk (filled B)) [(sb, mO sl sc), (nb, mO (nl.put kk (filled B) nc) (IMap.tick nl.i kk nc))]) := by
            refine Lib.hid ?_
            have h1 := H6.out.sub (us := [(nb, mO nl nc), (sb, mO sl sc)]) (by intro p hp; simp only [List.mem_cons, List.not_mem_nil, or_false] at hp ⊢; rcases hp with h | h <;> simp [h])
            have h2 := h1.set (w' := setBlock w6 nb (mO (nl.put kk (filled B) nc) (IMap.tick nl.i kk nc))) (o' := mO (nl.put kk (filled B) nc) (IMap.tick nl.i kk nc)) ((Kp.refl (fun k => k = nb) w6).setBlock (fun _ => rfl) _) (heap_setBlock_same (H6.out.var (nb, mO nl nc) (.tail _ (.tail _ (.head _))))) (by
              intro p hp
              simp only [List.mem_cons, List.not_mem_nil, or_false] at hp
              rw [hp]
              exact HX.out.2.2.2.2.1)
            exact h2.sub (by intro p hp; simp only [List.mem_cons, List.not_mem_nil, or_false] at hp ⊢; rcases hp with h | h <;> simp [h])
          have hput : (.map ((nl.i.put kk (bv (filled B)) nc).arr) (IMap.tick nl.i kk nc) : Obj) = mO (nl.put kk (filled B) nc) (IMap.tick nl.i kk nc) := by rw [SMap.put_i]; rfl
          try rw [hput]
          generalize setBlock w6 nb (mO (nl.put kk (filled B) nc) (IMap.tick nl.i kk nc)) = w7 at *
          go_roundw
          case rel =>
            refine ⟨m + 1, _, sl, _, sc, _, nb, by simp, HX.out.2.2.2.2.2.1, rfl, HX.out.2.2.2.2.1, H7.out, HX.out.2.1, HX.out.2.2.1.put kk (filled B), ?_⟩
            have h := HE.out.2
            have e : (nl.put kk (filled B) nc).get = (fun j => if j = kk then some (filled B) else nl.get j) := by funext j; exact SMap.get_put _ _ _ _ _
            rw [e]
            exact h
          case measure => exact measure_next HX.out.2.2.2.2.2.1 _ _ rfl rfl
      have hmn : ¬ (m : Int) < (n : Int) := by omega
      by_cases ht0 : t = 0
      · have hb : (t == 0) = true := by simpa using ht0
        have HE := Lib.hid (HX.out.2.2.2.1.sync_no (by omega))
        clear ht0 him
        go_wp2_with (first
          | ((with_reducible show wpList _ _ _ (Oper.mk _ _ _ _ _ (some _) :: _) _ _); refine wpList_guarded (by rfl) ?_)
          | ((with_reducible show wpList _ _ _ (Oper.mk _ (Op.load 29 _) _ _ _ _ :: _) _ _); refine wpList_loadA 29 _ rfl _ rfl g (o + m * 3) (by rfl) (opCells (K, A, B)) HX.out.2.2.2.2.2.2 Try.underlying29 rfl (lenOp _) ?_)
          | ((with_reducible show wpList _ _ _ (Oper.mk _ (Op.alloc 29) _ _ _ _ :: _) _ _); refine wpList_allocA 29 rfl rfl (opCells (0, 0, 0)) zeroOp ?_)
          | ((with_reducible show wpList _ _ _ (Oper.mk _ (Op.store 29 _ _) _ _ _ _ :: _) _ _); refine wpList_storeA 29 rfl _ _ rfl wr.heap.size 0 (opCells (K, A, B)) (by rfl) (by rfl) (th_freshOp wr _) (lenOp _) (opCells_one _) ?_; have HA := Lib.hid (HX.out.1.freshOp (K, A, B)); generalize hwa : (wr.alloc (.cells (opCells (0, 0, 0)).toArray 29)).setCells wr.heap.size 0 (opCells (K, A, B)) = wa at *; clear hwa; obtain ⟨hcK, hcA, hcB⟩ := HA.out.op (.head _))
          | (go_at_call 21; (with_reducible show Calls _ _ _ wa _); refine (HA.out.sync).mono ?_; rintro e w5 ⟨rfl, h⟩; have H5 := Lib.hid h; clear h hcK hcA hcB; rw [HE.out.1]))
        go_roundw
        case rel => exact ⟨m + 1, _, sl, nl, sc, nc, nb, by simp, HX.out.2.2.2.2.2.1, rfl, HX.out.2.2.2.2.1, H5.out.sub (fun p hp => .tail _ hp), HX.out.2.1, HX.out.2.2.1, HE.out.2⟩
        case measure => exact measure_next HX.out.2.2.2.2.2.1 _ _ rfl rfl
      · have hb : (t == 0) = false := by simpa using ht0
        have HE := Lib.hid (HX.out.2.2.2.1.write_no (by omega) kk HKK.out.1 HKK.out.2 (filled B))
        have HSM : Hid (∀ p ∈ D.opn, p.2.length < 1073741824) := Lib.hid (fun p hp => by have := HX.out.2.2.2.1.small p hp; have := HX.out.2.2.2.2.2.1; omega)
        clear ht0 him
        go_wp2_with (first
          | ((with_reducible show wpList _ _ _ (Oper.mk _ _ _ _ _ (some _) :: _) _ _); refine wpList_guarded (by rfl) ?_)
          | ((with_reducible show wpList _ _ _ (Oper.mk _ (Op.load 29 _) _ _ _ _ :: _) _ _); refine wpList_loadA 29 _ rfl _ rfl g (o + m * 3) (by rfl) (opCells (K, A, B)) HX.out.2.2.2.2.2.2 Try.underlying29 rfl (lenOp _) ?_)
          | ((with_reducible show wpList _ _ _ (Oper.mk _ (Op.alloc 29) _ _ _ _ :: _) _ _); refine wpList_allocA 29 rfl rfl (opCells (0, 0, 0)) zeroOp ?_)
          | ((with_reducible show wpList _ _ _ (Oper.mk _ (Op.store 29 _ _) _ _ _ _ :: _) _ _); refine wpList_storeA 29 rfl _ _ rfl wr.heap.size 0 (opCells (K, A, B)) (by rfl) (by rfl) (th_freshOp wr _) (lenOp _) (opCells_one _) ?_; have HA := Lib.hid (HX.out.1.freshOp (K, A, B)); generalize hwa : (wr.alloc (.cells (opCells (0, 0, 0)).toArray 29)).setCells wr.heap.size 0 (opCells (K, A, B)) = wa at *; clear hwa; obtain ⟨hcK, hcA, hcB⟩ := HA.out.op (.head _))
          | (go_at_call 23; (with_reducible show Calls _ _ _ wa _); refine (filled_c wa B).mono ?_; rintro e w4 ⟨rfl, h⟩; have H4 := Lib.hid (HA.out.quiet h); clear h hcK hcA hcB)
          | (go_at_call 22; (with_reducible show Calls _ _ _ w4 _); refine (H4.out.write kk (filled B) HSM.out).mono ?_; rintro e w5 ⟨rfl, h⟩; have H5 := Lib.hid h; clear h; rw [HE.out.1]))
        go_roundw
        case rel => exact ⟨m + 1, _, sl, nl, sc, nc, nb, by simp, HX.out.2.2.2.2.2.1, rfl, HX.out.2.2.2.2.1, H5.out.sub (fun p hp => .tail _ hp), HX.out.2.1, HX.out.2.2.1, HE.out.2⟩
        case measure => exact measure_next HX.out.2.2.2.2.2.1 _ _ rfl rfl
    · have hmL : m = xs.length := by omega
      subst hmL
      obtain ⟨q, hq2⟩ : ∃ q : Bool, decide ((n : Int) < (xs.length : Int)) = q := ⟨_, rfl⟩
      have hqn : decide (n < xs.length) = q := by rw [← hq2]; exact decide_eq_decide.2 (by omega)
      obtain ⟨s3, e3, hr3⟩ : ∃ s3 e3, D.read 3 = (s3, e3) := ⟨_, _, rfl⟩
      have he3 : (e3 == 220) = q := by have := hinv.read3; rw [hr3, hqn] at this; exact this
      have hdead : D.dead = q := by rw [hinv.dead, hqn]
      have hsteps := hinv.steps
      have HX := Lib.hid (And.intro hS (And.intro hsok (And.intro hnok (And.intro hinv (And.intro hne (And.intro hr3 (And.intro hdead hsteps)))))))
      have hlt' : ¬ ((xs.length : Int) < (xs.length : Int)) := by omega
      have HSM : Hid (∀ p ∈ D.opn, p.2.length < 1073741824) := Lib.hid (fun p hp => by have := hinv.small p hp; omega)
      clear hS hsok hnok hinv hne hr3 hdead hsteps hlt hm
      go_wp2_with (first
        | ((with_reducible show wpList _ _ _ (Oper.mk _ _ _ _ _ (some _) :: _) _ _); refine wpList_guarded (by rfl) ?_)
        | (go_at_call 11; (with_reducible show Calls _ _ _ wr _); refine (HX.out.1.read 3).mono ?_; rintro e w5 ⟨rfl, h⟩; have H5 := Lib.hid (HX.out.1.quiet h); clear h; simp only [HX.out.2.2.2.2.2.1])
        | ((with_reducible show wpList _ _ _ (Oper.mk _ (Op.alloc 33) _ _ _ _ :: _) _ _); refine wpList_allocA 33 rfl rfl (bcells zsec) zeroSec ?_)
        | ((with_reducible show wpList _ _ _ (Oper.mk _ (Op.store 33 (Operand.tmp 16) _) _ _ _ _ :: _) _ _); refine wpList_storeA 33 rfl _ _ rfl w5.heap.size 0 (bcells s3) (by rfl) (by rfl) (th_fresh w5 s3) (lenSec _) (bcells_one _) ?_; have H6 := Lib.hid ((H5.out.fresh s3).sub (us := [(sb, mO sl sc), (nb, mO nl nc)]) (fun p hp => .tail _ hp)); generalize hw : (w5.alloc (.cells (bcells zsec).toArray 33)).setCells w5.heap.size 0 (bcells s3) = w6 at *; clear hw)
        | (go_at_call 16; (with_reducible show Calls _ _ _ w6 _); refine (H6.out.down).mono ?_; rintro e w' ⟨rfl, rfl⟩; rw [HX.out.2.2.2.2.2.2.1])
        | (go_at_call 17; (with_reducible show Calls _ _ _ w6 _); refine (H6.out.steps).mono ?_; rintro e w' ⟨rfl, rfl⟩; rw [HX.out.2.2.2.2.2.2.2])
        | (go_at_call 14; (with_reducible show Calls _ _ _ w6 _); refine (H6.out.crash _ ks (HXS.out.2.kept H6.out.kp) HSM.out).mono ?_; rintro e w7 ⟨b', rfl, h, -⟩; have H7 := Lib.hid h; clear h))
      clear hqn hq2 he3
      have H8 : Hid (StopEnd w b' (D.crash ks) sb nb sl nl sc nc (.int .i64 (0 : Nat)) w7) := Lib.hid ⟨0, rfl, by omega, H7.out⟩
      go_loopw [140] (fun i wr => StopEnd w b' (D.crash ks) sb nb sl nl sc nc i wr) (fun i _ => 16 - (intOf i).toNat)
      case atStart => exact H8.out
      case round =>
        obtain ⟨k, rfl, hk16, hS⟩ := hrel
        by_cases hlt : k < 16
        · have hlook := look_sec_ok wr nb nl nc k (hS.var (nb, mO nl nc) (.tail _ (.head _)))
          have hk0 : (k : Int) < 16 := by omega
          have HZ := Lib.hid (And.intro hS hlt)
          have HWN : Hid (wrap64 ((k : Int) + 1) = (k : Int) + 1) := Lib.hid (IntWalk.wrap64_in _ (by omega))
          clear hS hlt hk16
          cases hnk : nl.get k with
          | some u =>
            rw [hnk] at hlook
            simp only [Option.getD_some, Option.isSome_some] at hlook
            clear hnk
            go_wp2_with (first
              | ((with_reducible show wpList _ _ _ (Oper.mk _ _ _ _ _ (some _) :: _) _ _); refine wpList_guarded (by rfl) ?_)
              | ((with_reducible show wpList _ _ _ (Oper.mk _ (Op.alloc 33) _ _ _ _ :: _) _ _); refine wpList_allocA 33 rfl rfl (bcells zsec) zeroSec ?_)
              | ((with_reducible show wpList _ _ _ (Oper.mk _ (Op.store 33 (Operand.tmp 20) _) _ _ _ _ :: _) _ _); refine wpList_storeA 33 rfl _ _ rfl wr.heap.size 0 (bcells u) (by rfl) (by rfl) (th_fresh wr u) (lenSec _) (bcells_one _) ?_; have HA := Lib.hid (HZ.out.1.fresh u); generalize hw : (wr.alloc (.cells (bcells zsec).toArray 33)).setCells wr.heap.size 0 (bcells u) = wa at *; clear hw))
            go_roundw
            case rel => exact ⟨k + 1, by simp, by have := HZ.out.2; omega, HA.out.sub (fun p hp => .tail _ hp)⟩
            case measure => exact measure_next HZ.out.2 _ _ rfl rfl
          | none =>
            have hrd := HX.out.2.2.2.1.crash ks k HZ.out.2 hnk
            rw [hnk] at hlook
            simp only [Option.getD_none, Option.isSome_none] at hlook
            obtain ⟨s, hs⟩ : ∃ s, s = (sl.get k).getD zsec := ⟨_, rfl⟩
            rw [← hs] at hrd
            have HRD := Lib.hid (And.intro hrd hs)
            clear hnk hrd hs
            go_wp2_with (first
              | ((with_reducible show wpList _ _ _ (Oper.mk _ _ _ _ _ (some _) :: _) _ _); refine wpList_guarded (by rfl) ?_)
              | ((with_reducible show wpList _ _ _ (Oper.mk _ (Op.alloc 33) _ _ _ _ :: _) _ _); refine wpList_allocA 33 rfl rfl (bcells zsec) zeroSec ?_)
              | ((with_reducible show wpList _ _ _ (Oper.mk _ (Op.store 33 (Operand.tmp 20) _) _ _ _ _ :: _) _ _); refine wpList_storeA 33 rfl _ _ rfl wr.heap.size 0 (bcells zsec) (by rfl) (by rfl) (th_fresh wr zsec) (lenSec _) (bcells_one _) ?_; have HA := Lib.hid (HZ.out.1.fresh zsec); generalize hw : (wr.alloc (.cells (bcells zsec).toArray 33)).setCells wr.heap.size 0 (bcells zsec) = wa at *; clear hw)
              | (go_at_call 11; (with_reducible show Calls _ _ _ wa _); refine (HA.out.read k).mono ?_; rintro e wb ⟨rfl, h⟩; have HB := Lib.hid (HA.out.quiet h); clear h; simp only [HRD.out.1])
              | ((with_reducible show wpList _ _ _ (Oper.mk _ (Op.store 33 (Operand.tmp 22) _) _ _ _ _ :: _) _ _); refine wpList_storeA 33 rfl _ _ rfl wb.heap.size 0 (bcells s) (by rfl) (by rfl) (th_fresh wb s) (lenSec _) (bcells_one _) ?_; have HC := Lib.hid (HB.out.fresh s); generalize hw : (wb.alloc (.cells (bcells zsec).toArray 33)).setCells wb.heap.size 0 (bcells s) = wc at *; clear hw; have hlk2 := look_sec wc sb sl sc k (HC.out.var (sb, mO sl sc) (.tail _ (.tail _ (.head _)))); rw [← HRD.out.2] at hlk2)
              | ((with_reducible show wpList _ _ _ (Oper.mk _ (Op.load 33 (Operand.tmp 22)) _ _ _ _ :: _) _ _); refine wpList_loadA 33 _ rfl _ rfl wb.heap.size 0 (by rfl) (bcells s) (HC.out.rd (.head _)) Try.underlying33 rfl (lenSec _) ?_)
              | ((with_reducible show wpList _ _ _ (Oper.mk _ (Op.binOp BinOp.neq 33 _ _ _) _ _ _ _ :: _) _ _); refine neB_same rfl _ _ rfl s (by rfl) (by rfl) ?_))
            go_roundw
            case rel => exact ⟨k + 1, by simp, by have := HZ.out.2; omega, HC.out.sub (fun p hp => .tail _ (.tail _ hp))⟩
            case measure => exact measure_next HZ.out.2 _ _ rfl rfl
        · have HZ := Lib.hid hS
          have hk0 : ¬ (k : Int) < 16 := by omega
          clear hS hlt hk16
          go_wp2_with (first
            | (go_at_call 8; refine (sanity_c _).mono ?_; rintro e w9 ⟨rfl, h⟩; have H9 := Lib.hid (HZ.out.kp.trans h (fun _ _ h => h)); clear h))
          go_ret
          exact ⟨rfl, H9.out⟩

end Go.Proofs.Ytopeelclhpjngaa
