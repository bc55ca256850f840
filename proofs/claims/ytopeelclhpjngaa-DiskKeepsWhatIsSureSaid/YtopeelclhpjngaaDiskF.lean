/- The contracts of Arm, Down and found. -/
import Derived.Test.YtopeelclhpjngaaDiskE
import Derived.Laws.CopyOwn
attribute [local go_sem ↓] Go.wp_at_zero Go.wp_at_succ
namespace Go.Proofs.Ytopeelclhpjngaa
set_option linter.unusedSimpArgs false
set_option linter.unusedVariables false
open Go Go.ChangeMaps Go.RowKit Go.Proofs

def Dsk.arm (D : Dsk) (n : Int) : Dsk := { D with after := if n < -1 then -1 else n }

theorem arm_c (w : World) (b : Nat) (D : Dsk) (F : Nat → Prop) (h : IsDsk w b D F) (n : Int) (hn : n < 9223372036854775808) :
    Calls Try.prog 20 #[.pointer (some ⟨b, 0, none⟩), .int .i64 n] w fun e w' => e = .returned (.tuple #[]) ∧ IsDsk w' b (D.arm n) F ∧ Kp F w w' := by
  obtain ⟨cb, mb, l, clock, h⟩ := h
  obtain ⟨h0, h1, h2, h3, h4⟩ := dsk_cells h
  obtain ⟨f2, f3, f4⟩ := dsk_free h
  have H := Lib.hid h
  clear h
  by_cases hlt : n < -1
  · go_enter Try.func20, Try.ntmps20
    go_wp2
    go_end0
    have h := H.out
    refine ⟨rfl, ⟨cb, mb, l, clock, ?_⟩, (Kp.refl F w).setCell (fun _ => h.fb) _⟩
    exact h.put 3 _ _ rfl rfl (by simp [Dsk.arm, hlt]) (by simp [Dsk.arm, hlt])
  · go_enter Try.func20, Try.ntmps20
    go_wp2
    go_end0
    have h := H.out
    refine ⟨rfl, ⟨cb, mb, l, clock, ?_⟩, (Kp.refl F w).setCell (fun _ => h.fb) _⟩
    exact h.put 3 _ _ rfl rfl (by simp [Dsk.arm, hlt]; omega) (by simp only [Dsk.arm]; split <;> omega)

theorem down_c (w : World) (b : Nat) (D : Dsk) (F : Nat → Prop) (h : IsDsk w b D F) :
    Calls Try.prog 16 #[.pointer (some ⟨b, 0, none⟩)] w fun e w' => e = .returned (.bool D.dead) ∧ w = w' := by
  obtain ⟨cb, mb, l, clock, h⟩ := h
  obtain ⟨h0, h1, h2, h3, h4⟩ := dsk_cells h
  go_enter Try.func16, Try.ntmps16
  go_wp2
  go_ret
  exact ⟨rfl, rfl⟩

/-- A sector whose second half is another one's. -/
def tornS (new old : Sec) : Sec := ⟨(new.toList.take 32 ++ old.toList.drop 32).toArray, by simp⟩
theorem bcells_torn (new old : Sec) : bcells (tornS new old) = over (bcells new) 32 ((bcells old).drop 32) := by
  simp [tornS, bcells, over, Vector.toList]
theorem tornS_self (s : Sec) : tornS s s = s := by
  apply bcells_inj
  rw [bcells_torn]
  simp [over]

/-- Which of the possible ones. -/
def foundR (x : Int) (n : Nat) : Int := (x.tmod (n + 3) + n + 3).tmod (n + 3)
def foundC (c : Sec × Bool) (L : List Sec) (x : Int) : Sec × Bool :=
  if foundR x L.length = 0 then c
  else if foundR x L.length ≤ L.length then (L.getD (foundR x L.length - 1).toNat zsec, false)
  else if foundR x L.length = L.length + 1 then (zsec, true)
  else (tornS (L.getD (L.length - 1) zsec) (if L.length > 1 then L.getD (L.length - 2) zsec else c.1), false)

theorem foundR_bounds (x : Int) (n : Nat) : -((n : Int) + 3) < x.tmod (n + 3) ∧ x.tmod (n + 3) < (n : Int) + 3 ∧ 0 ≤ foundR x n ∧ foundR x n < (n : Int) + 3 := by
  have hp : (0 : Int) < (n : Int) + 3 := by omega
  have h1 := Int.lt_tmod_of_pos x hp
  have h2 := Int.tmod_lt_of_pos x hp
  refine ⟨by omega, h2, ?_, Int.tmod_lt_of_pos _ hp⟩
  exact Int.tmod_nonneg _ (by omega)

theorem loadS {w : World} {T : TypeId} {base g cap : Nat} {L : List Sec} (h : w.ownsRow base T 64 (.slice (some ⟨g, 0, none⟩) L.length cap) L.length (flatS L)) (j : Nat) (hj : j < L.length) : w.rangeAt g (j * 64) (bcells (L.getD j zsec)) := by
  have := row_sec h j hj
  simpa [List.getD, hj] using this

set_option maxRecDepth 100000 in
set_option maxHeartbeats 4000000 in
theorem found_0 (w : World) (c : Sec × Bool) (g n cap : Nat) (x q r : Int) (hq : x.tmod ((n : Int) + 3) = q) (hr : (q + n + 3).tmod ((n : Int) + 3) = r) (hr1 : -((n : Int) + 3) < q) (hr2 : q < (n : Int) + 3) (hr3 : 0 ≤ r) (hr4 : r < (n : Int) + 3)
    (hL : 0 < n) (hsm : n < 1073741824) (h0 : r = 0) :
    Calls Try.prog 37 #[av (ccells c), .slice (some ⟨g, 0, none⟩) n cap, .int .i64 x] w fun e w' => e = .returned (av (ccells c)) ∧ Kp (fun _ => False) w w' := by
  have hp : (0 : Int) < (n : Int) + 3 := by omega
  have hz0 : (((n : Int) + 3) == 0) = false := by simp; omega
  have hr5 : (q + n + 3) % ((n : Int) + 3) = r := by rw [← hr, Int.tmod_eq_emod_of_nonneg (by omega)]
  have hb0 : (r == 0) = true := by simp [h0]
  have hbox : ∀ o, ((w.alloc (.cells (ccells c).toArray 73)).alloc o).rangeAt w.heap.size 0 (ccells c) := fun o => World.rangeAt_alloc (rangeAt_of (heap_alloc_new w _) 0 (ccells c) (by rw [List.drop_zero, List.take_length])) o
  have hth := there_of (heap_alloc_new (w.alloc (.cells (ccells c).toArray 73)) (.cells (ccells (zsec, false)).toArray 73)) 0 65 (by simp)
  rw [World.size_alloc] at hth
  have HB := Lib.hid hbox
  have HT := Lib.hid hth
  clear h0 hbox hth
  go_enter Try.func37, Try.ntmps37
  go_wp2_with (first
    | ((with_reducible show wpList _ _ _ (Oper.mk _ (Op.box _ _) _ _ _ _ :: _) _ _); refine wpList_boxA 73 rfl _ rfl (ccells c) rfl ?_)
    | ((with_reducible show wpList _ _ _ (Oper.mk _ (Op.alloc 73) _ _ _ _ :: _) _ _); refine wpList_allocA 73 rfl rfl (ccells (zsec, false)) zeroCell ?_)
    | ((with_reducible show wpList _ _ _ (Oper.mk _ (Op.load 73 _) _ _ _ _ :: _) _ _); refine wpList_loadA 73 _ rfl _ rfl w.heap.size 0 (by simp [Act.eval]) (ccells c) (HB.out _) Try.underlying73 rfl (lenCell _) ?_)
    | ((with_reducible show wpList _ _ _ (Oper.mk _ (Op.store 73 _ _) _ _ _ _ :: _) _ _); refine wpList_storeA 73 rfl _ _ rfl (w.heap.size + 1) 0 (ccells c) (by rfl) (by rfl) (by simpa using HT.out) (lenCell _) (ccells_one _) ?_))
  refine bodyPost_ret (results_cell1 rfl _ _ (w.heap.size + 1) 0 rfl (av (ccells c)) (run_loadVar_at Try.underlying73 rfl _ _ _ (ccells _) (lenCell _) ?_)) rfl ⟨rfl, ?_⟩
  · exact World.rangeAt_setCells_same _ _ _ _ (by simpa using HT.out)
  · exact Kp.setCells (fun h => absurd h (by omega)) _ _ _ (((Kp.refl _ w).alloc _).alloc _)

set_option maxRecDepth 100000 in
set_option maxHeartbeats 4000000 in
theorem found_le (w : World) (c : Sec × Bool) (g n cap : Nat) (x q r : Int) (hq : x.tmod ((n : Int) + 3) = q) (hr : (q + n + 3).tmod ((n : Int) + 3) = r) (hr1 : -((n : Int) + 3) < q) (hr2 : q < (n : Int) + 3) (hr3 : 0 ≤ r) (hr4 : r < (n : Int) + 3)
    (hL : 0 < n) (hsm : n < 1073741824) (m : Nat) (s : Sec) (hm : r = (m : Int) + 1) (hle : m < n) (hs : w.rangeAt g (m * 64) (bcells s)) :
    Calls Try.prog 37 #[av (ccells c), .slice (some ⟨g, 0, none⟩) n cap, .int .i64 x] w fun e w' => e = .returned (av (ccells (s, false))) ∧ Kp (fun _ => False) w w' := by
  have hp : (0 : Int) < (n : Int) + 3 := by omega
  have hz0 : (((n : Int) + 3) == 0) = false := by simp; omega
  have hr5 : (q + n + 3) % ((n : Int) + 3) = r := by rw [← hr, Int.tmod_eq_emod_of_nonneg (by omega)]
  have hth := there_of (heap_alloc_new (w.alloc (.cells (ccells c).toArray 73)) (.cells (ccells (zsec, false)).toArray 73)) 0 65 (by simp)
  rw [World.size_alloc] at hth
  have HT := Lib.hid hth
  clear hth
  have hb0 : (r == 0) = false := by simp; omega
  have hb1 : r ≤ (n : Int) := by omega
  have hm0 : (0 : Int) ≤ (m : Int) := by omega
  have hm1 : (m : Int) < (n : Int) := by omega
  have hsub : r - 1 = (m : Int) := by omega
  have hrow : ∀ o o', ((w.alloc o).alloc o').rangeAt g (m * 64) (bcells s) := fun o o' => World.rangeAt_alloc (World.rangeAt_alloc hs o) o'
  have HR := Lib.hid hrow
  clear hrow hs hm
  go_enter Try.func37, Try.ntmps37
  go_wp2_with (first
    | ((with_reducible show wpList _ _ _ (Oper.mk _ (Op.box _ _) _ _ _ _ :: _) _ _); refine wpList_boxA 73 rfl _ rfl (ccells c) rfl ?_)
    | ((with_reducible show wpList _ _ _ (Oper.mk _ (Op.alloc 73) _ _ _ _ :: _) _ _); refine wpList_allocA 73 rfl rfl (ccells (zsec, false)) zeroCell ?_)
    | ((with_reducible show wpList _ _ _ (Oper.mk _ (Op.load 33 _) _ _ _ _ :: _) _ _); refine wpList_loadA 33 _ rfl _ rfl g (m * 64) (by simp [Act.eval]) (bcells s) (HR.out _ _) Try.underlying33 rfl (lenSec _) ?_)
    | ((with_reducible show wpList _ _ _ (Oper.mk _ (Op.build _ _) _ _ _ _ :: _) _ _); refine wpList_buildA (av (ccells (s, false))) 73 rfl _ rfl #[(0, av (bcells s))] (by simp [Act.eval, Act.put]) (buildCell s _) ?_)
    | ((with_reducible show wpList _ _ _ (Oper.mk _ (Op.store 73 _ _) _ _ _ _ :: _) _ _); refine wpList_storeA 73 rfl _ _ rfl (w.heap.size + 1) 0 (ccells (s, false)) (by rfl) (by rfl) (by simpa using HT.out) (lenCell _) (ccells_one _) ?_))
  refine bodyPost_ret (results_cell1 rfl _ _ (w.heap.size + 1) 0 rfl (av (ccells (s, false))) (run_loadVar_at Try.underlying73 rfl _ _ _ (ccells _) (lenCell _) ?_)) rfl ⟨rfl, ?_⟩
  · exact World.rangeAt_setCells_same _ _ _ _ (by simpa using HT.out)
  · exact Kp.setCells (fun h => absurd h (by omega)) _ _ _ (((Kp.refl _ w).alloc _).alloc _)

set_option maxRecDepth 100000 in
set_option maxHeartbeats 4000000 in
theorem found_bad (w : World) (c : Sec × Bool) (g n cap : Nat) (x q r : Int) (hq : x.tmod ((n : Int) + 3) = q) (hr : (q + n + 3).tmod ((n : Int) + 3) = r) (hr1 : -((n : Int) + 3) < q) (hr2 : q < (n : Int) + 3) (hr3 : 0 ≤ r) (hr4 : r < (n : Int) + 3)
    (hL : 0 < n) (hsm : n < 1073741824) (hm : r = (n : Int) + 1) :
    Calls Try.prog 37 #[av (ccells c), .slice (some ⟨g, 0, none⟩) n cap, .int .i64 x] w fun e w' => e = .returned (av (ccells (zsec, true))) ∧ Kp (fun _ => False) w w' := by
  have hp : (0 : Int) < (n : Int) + 3 := by omega
  have hz0 : (((n : Int) + 3) == 0) = false := by simp; omega
  have hr5 : (q + n + 3) % ((n : Int) + 3) = r := by rw [← hr, Int.tmod_eq_emod_of_nonneg (by omega)]
  have hth := there_of (heap_alloc_new (w.alloc (.cells (ccells c).toArray 73)) (.cells (ccells (zsec, false)).toArray 73)) 0 65 (by simp)
  rw [World.size_alloc] at hth
  have HT := Lib.hid hth
  clear hth
  have hb0 : (r == 0) = false := by simp; omega
  have hb1 : ¬ r ≤ (n : Int) := by omega
  have hb2 : (r == (n : Int) + 1) = true := by simp [hm]
  clear hm
  go_enter Try.func37, Try.ntmps37
  go_wp2_with (first
    | ((with_reducible show wpList _ _ _ (Oper.mk _ (Op.box _ _) _ _ _ _ :: _) _ _); refine wpList_boxA 73 rfl _ rfl (ccells c) rfl ?_)
    | ((with_reducible show wpList _ _ _ (Oper.mk _ (Op.alloc 73) _ _ _ _ :: _) _ _); refine wpList_allocA 73 rfl rfl (ccells (zsec, false)) zeroCell ?_)
    | ((with_reducible show wpList _ _ _ (Oper.mk _ (Op.build _ _) _ _ _ _ :: _) _ _); refine wpList_buildA (av (ccells (zsec, true))) 73 rfl _ rfl #[(1, .bool true)] (by simp [Act.eval]) (rotCell _) ?_)
    | ((with_reducible show wpList _ _ _ (Oper.mk _ (Op.store 73 _ _) _ _ _ _ :: _) _ _); refine wpList_storeA 73 rfl _ _ rfl (w.heap.size + 1) 0 (ccells (zsec, true)) (by rfl) (by rfl) (by simpa using HT.out) (lenCell _) (ccells_one _) ?_))
  refine bodyPost_ret (results_cell1 rfl _ _ (w.heap.size + 1) 0 rfl (av (ccells (zsec, true))) (run_loadVar_at Try.underlying73 rfl _ _ _ (ccells _) (lenCell _) ?_)) rfl ⟨rfl, ?_⟩
  · exact World.rangeAt_setCells_same _ _ _ _ (by simpa using HT.out)
  · exact Kp.setCells (fun h => absurd h (by omega)) _ _ _ (((Kp.refl _ w).alloc _).alloc _)

end Go.Proofs.Ytopeelclhpjngaa
