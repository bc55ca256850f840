/- The contract of found: a torn sector, and all together. -/
import Derived.Test.YtopeelclhpjngaaDiskF
attribute [local go_sem ↓] Go.wp_at_zero Go.wp_at_succ
namespace Go.Proofs.Ytopeelclhpjngaa
set_option linter.unusedSimpArgs false
set_option linter.unusedVariables false
open Go Go.ChangeMaps Go.RowKit Go.Proofs
set_option maxRecDepth 100000 in
set_option maxHeartbeats 20000000 in
theorem found_torn (w : World) (c : Sec × Bool) (g n cap : Nat) (x q r : Int) (hq : x.tmod ((n : Int) + 3) = q) (hr : (q + n + 3).tmod ((n : Int) + 3) = r) (hr1 : -((n : Int) + 3) < q) (hr2 : q < (n : Int) + 3) (hr3 : 0 ≤ r) (hr4 : r < (n : Int) + 3)
    (hL : 0 < n) (hsm : n < 1073741824) (last before : Sec) (hm : r = (n : Int) + 2) (k : Nat) (hkn : k + 1 = n) (hs : w.rangeAt g (k * 64) (bcells last)) (hs2 : 1 < n → w.rangeAt g ((k - 1) * 64) (bcells before)) (hs1 : n = 1 → before = c.1) :
    Calls Try.prog 37 #[av (ccells c), .slice (some ⟨g, 0, none⟩) n cap, .int .i64 x] w fun e w' => e = .returned (av (ccells (tornS last before, false))) ∧ Kp (fun _ => False) w w' := by
  have hp : (0 : Int) < (n : Int) + 3 := by omega
  have hz0 : (((n : Int) + 3) == 0) = false := by simp; omega
  have hr5 : (q + n + 3) % ((n : Int) + 3) = r := by rw [← hr, Int.tmod_eq_emod_of_nonneg (by omega)]
  have hth := there_of (heap_alloc_new (w.alloc (.cells (ccells c).toArray 73)) (.cells (ccells (zsec, false)).toArray 73)) 0 65 (by simp)
  rw [World.size_alloc] at hth
  have HT := Lib.hid hth
  clear hth
  have hb0 : (r == 0) = false := by simp; omega
  have hb1 : ¬ r ≤ (n : Int) := by omega
  have hb2 : (r == (n : Int) + 1) = false := by simp; omega
  have hbox := fun o => World.rangeAt_alloc (rangeAt_of (heap_alloc_new w (.cells (ccells c).toArray 73)) 0 (bcells c.1) (by rw [List.drop_zero, length_bcells, ccells, List.take_left' (by simp)])) o
  have hrow := fun o o' => World.rangeAt_alloc (World.rangeAt_alloc hs o) o'
  have hrow2 := fun h o o' => World.rangeAt_alloc (World.rangeAt_alloc (hs2 h) o) o'
  have hn1 : IntKind.i64.wrap ((n : Int) - 1) = (k : Int) := by rw [IntWalk.i64_in _ (by omega)]; omega
  have hn1' : (n : Int) - 1 = (k : Int) := by omega
  have hn4 : IntKind.i64.wrap (k : Int) = (k : Int) := by rw [IntWalk.i64_in _ (by omega)]
  have hn2 : (0 : Int) ≤ (k : Int) := by omega
  have hn3 : (k : Int) < (n : Int) := by omega
  have HKN := Lib.hid hkn
  have HBX := Lib.hid hbox
  have HRW := Lib.hid hrow
  have HRW2 := Lib.hid hrow2
  have HS1 := Lib.hid hs1
  clear hbox hrow hrow2 hs hs2 hs1 hkn
  clear hm
  go_enter Try.func37, Try.ntmps37
  go_wp2_with (first
    | ((with_reducible show wpList _ _ _ (Oper.mk _ (Op.box _ _) _ _ _ _ :: _) _ _); refine wpList_boxA 73 rfl _ rfl (ccells c) rfl ?_)
    | ((with_reducible show wpList _ _ _ (Oper.mk _ (Op.alloc 73) _ _ _ _ :: _) _ _); refine wpList_allocA 73 rfl rfl (ccells (zsec, false)) zeroCell ?_))
  have hb := HBX.out (.cells (ccells (zsec, false)).toArray 73)
  have hr0 := HRW.out (.cells (ccells c).toArray 73) (.cells (ccells (zsec, false)).toArray 73)
  have hres := heap_alloc_new (w.alloc (.cells (ccells c).toArray 73)) (.cells (ccells (zsec, false)).toArray 73)
  rw [World.size_alloc] at hres
  have hg2 := fun h => HRW2.out h (.cells (ccells c).toArray 73) (.cells (ccells (zsec, false)).toArray 73)
  have hsz0 : ((w.alloc (.cells (ccells c).toArray 73)).alloc (.cells (ccells (zsec, false)).toArray 73)).heap.size = w.heap.size + 2 := by simp
  have hK0 : Kp (fun _ => False) w ((w.alloc (.cells (ccells c).toArray 73)).alloc (.cells (ccells (zsec, false)).toArray 73)) := ((Kp.refl _ w).alloc _).alloc _
  generalize hw0 : (w.alloc (.cells (ccells c).toArray 73)).alloc (.cells (ccells (zsec, false)).toArray 73) = w0 at *
  have hu := Try.underlying33
  have hi := lenSec last
  have hi1 := lenSec c.1
  have hone := bcells_one last
  have hone1 := bcells_one c.1
  have hl1 := length_bcells last
  have hl2 := length_bcells c.1
  clear hw0
  have hS0 : w0.drew.rangeAt w.heap.size 0 (bcells c.1) ∧ w0.drew.rangeAt g (k * 64) (bcells last) := ⟨by simpa using hb, by simpa using hr0⟩
  refine wp_region_held (S := fun w' => w'.rangeAt w.heap.size 0 (bcells c.1) ∧ w'.rangeAt g (k * 64) (bcells last)) (by kernel_rfl) ?_
  change wpAnyH _ _ _ _ _ _ _ _ w0.drew
  refine wpAnyH_take (i := 0) (v := .pointer (some ⟨w.heap.size, 0, none⟩)) rfl (by kernel_rfl) (by kernel_rfl) (by kernel_rfl) (fun _ _ _ h => h) (Or.inl ⟨by rfl, fun w' hS => ?_⟩) hS0 ?_
  · go_simp
  try simp only [Act.put, List.setIfInBounds_toArray, List.set_cons_zero, List.set_cons_succ]
  refine wpAnyH_take (i := 1) (v := .agg (bcells c.1).toArray) rfl (by kernel_rfl) (by kernel_rfl) (by kernel_rfl) (fun _ _ _ h => h) (yieldsIf_load_mid (by rfl) _ _ rfl w.heap.size (0) (by rfl) (bcells c.1) _ (fun w' hS => hS.1) hu rfl hi1) hS0 ?_
  try simp only [Act.put, List.setIfInBounds_toArray, List.set_cons_zero, List.set_cons_succ]
  refine wpAnyH_take (i := 2) (v := .slice (some ⟨g, 0, none⟩) n cap) rfl (by kernel_rfl) (by kernel_rfl) (by kernel_rfl) (fun _ _ _ h => h) (Or.inl ⟨by rfl, fun w' hS => ?_⟩) hS0 ?_
  · go_simp
  try simp only [Act.put, List.setIfInBounds_toArray, List.set_cons_zero, List.set_cons_succ]
  refine wpAnyH_take (i := 3) (v := .int .i64 n) rfl (by kernel_rfl) (by kernel_rfl) (by kernel_rfl) (fun _ _ _ h => h) (Or.inl ⟨by rfl, fun w' hS => ?_⟩) hS0 ?_
  · go_simp
  try simp only [Act.put, List.setIfInBounds_toArray, List.set_cons_zero, List.set_cons_succ]
  refine wpAnyH_take (i := 4) (v := .int .i64 k) rfl (by kernel_rfl) (by kernel_rfl) (by kernel_rfl) (fun _ _ _ h => h) (Or.inl ⟨by rfl, fun w' hS => ?_⟩) hS0 ?_
  · go_simp
  try simp only [Act.put, List.setIfInBounds_toArray, List.set_cons_zero, List.set_cons_succ]
  refine wpAnyH_take (i := 5) (v := .pointer (some ⟨g, k * 64, none⟩)) rfl (by kernel_rfl) (by kernel_rfl) (by kernel_rfl) (fun _ _ _ h => h) (Or.inl ⟨by rfl, fun w' hS => ?_⟩) hS0 ?_
  · go_simp
  try simp only [Act.put, List.setIfInBounds_toArray, List.set_cons_zero, List.set_cons_succ]
  refine wpAnyH_take (i := 6) (v := .agg (bcells last).toArray) rfl (by kernel_rfl) (by kernel_rfl) (by kernel_rfl) (fun _ _ _ h => h) (yieldsIf_load_mid (by rfl) _ _ rfl g (k * 64) (by rfl) (bcells last) _ (fun w' hS => hS.2) hu rfl hi) hS0 ?_
  try simp only [Act.put, List.setIfInBounds_toArray, List.set_cons_zero, List.set_cons_succ]
  have hg0 : g < w0.heap.size := by
    have := World.block_lt_of_cell? _ _ (hr0 0 _ (bcells_get last 0 (by omega)))
    simpa using this
  have hthA : ((w0.drew.alloc (.cells (bcells zsec).toArray 33)).alloc (.cells (bcells zsec).toArray 33)).there w0.heap.size 0 (bcells c.1).length :=
    World.there_alloc (there_of (heap_alloc_new w0.drew _) 0 _ (by simp)) _
  have hthB : ((w0.drew.alloc (.cells (bcells zsec).toArray 33)).alloc (.cells (bcells zsec).toArray 33)).there (w0.heap.size + 1) 0 (bcells c.1).length := by
    have := there_of (heap_alloc_new (w0.drew.alloc (.cells (bcells zsec).toArray 33)) (.cells (bcells zsec).toArray 33)) 0 (bcells c.1).length (by simp)
    simpa using this
  have hzA : ((w0.drew.alloc (.cells (bcells zsec).toArray 33)).alloc (.cells (bcells zsec).toArray 33)).heap[w0.heap.size]? = some (.cells (bcells zsec).toArray 33 (0, 0)) :=
    (Below.heap_alloc _ _ _ (by simp)).trans (heap_alloc_new w0.drew _)
  have hzB : ((w0.drew.alloc (.cells (bcells zsec).toArray 33)).alloc (.cells (bcells zsec).toArray 33)).heap[w0.heap.size + 1]? = some (.cells (bcells zsec).toArray 33 (0, 0)) := by
    have := heap_alloc_new (w0.drew.alloc (.cells (bcells zsec).toArray 33)) (.cells (bcells zsec).toArray 33)
    simpa using this
  have hzr : ((w0.drew.alloc (.cells (bcells zsec).toArray 33)).alloc (.cells (bcells zsec).toArray 33)).heap[w.heap.size + 1]? = some (.cells (ccells (zsec, false)).toArray 73 (0, 0)) :=
    (Below.heap_alloc _ _ _ (by simp; omega)).trans ((Below.heap_alloc _ _ _ (by simp; omega)).trans hres)
  refine anyH_two (i := 7) (j := 8) (by kernel_rfl) ?_ ?_
  · refine wpOp_allocA 33 (bcells zsec) rfl rfl rfl zeroSec ⟨⟨World.rangeAt_alloc hS0.1 _, World.rangeAt_alloc hS0.2 _⟩, ?_⟩
    refine anyH_one (i := 8) (by kernel_rfl) ?_
    refine wpOp_allocA 33 (bcells zsec) rfl rfl rfl zeroSec ⟨⟨World.rangeAt_alloc (World.rangeAt_alloc hS0.1 _) _, World.rangeAt_alloc (World.rangeAt_alloc hS0.2 _) _⟩, ?_⟩
    refine anyH_one (i := 9) (by kernel_rfl) ?_
    refine wpOp_storeA 33 _ _ w0.heap.size 0 (bcells c.1) rfl rfl rfl (by simp [Act.eval, Act.put]) (by simp [Act.eval, Act.put, av]) (hthA) (lenSec _) (bcells_one _) ⟨?_, ?_⟩
    · exact ⟨World.rangeAt_setCells_apart (World.rangeAt_alloc (World.rangeAt_alloc hS0.1 _) _) _ _ _ (.inl (by omega)), World.rangeAt_setCells_apart (World.rangeAt_alloc (World.rangeAt_alloc hS0.2 _) _) _ _ _ (.inl (by omega))⟩
    refine anyH_one (i := 10) (by kernel_rfl) ?_
    refine wpOp_storeA 33 _ _ (w0.heap.size + 1) 0 (bcells last) rfl rfl rfl (by simp [Act.eval, Act.put]) (by simp [Act.eval, Act.put, av]) (by simpa using World.there_setCells hthB _ _ _) (lenSec _) (bcells_one _) ⟨?_, ?_⟩
    · exact ⟨World.rangeAt_setCells_apart (World.rangeAt_setCells_apart (World.rangeAt_alloc (World.rangeAt_alloc hS0.1 _) _) _ _ _ (.inl (by omega))) _ _ _ (.inl (by omega)), World.rangeAt_setCells_apart (World.rangeAt_setCells_apart (World.rangeAt_alloc (World.rangeAt_alloc hS0.2 _) _) _ _ _ (.inl (by omega))) _ _ _ (.inl (by omega))⟩
    refine wpAnyH_done (by kernel_rfl) ?_ _
    simp only [Act.put, List.getElem_toArray, List.getElem_cons_zero, List.getElem_cons_succ, List.setIfInBounds_toArray, List.set_cons_zero, List.set_cons_succ, World.size_alloc, World.size_drew]
    have hW9 : (((w0.drew.alloc (.cells (bcells zsec).toArray 33)).alloc (.cells (bcells zsec).toArray 33)).heap[w0.heap.size]? = some (.cells (bcells zsec).toArray 33 (0, 0))) := hzA
    have hW10 : (((w0.drew.alloc (.cells (bcells zsec).toArray 33)).alloc (.cells (bcells zsec).toArray 33)).heap[(w0.heap.size + 1)]? = some (.cells (bcells zsec).toArray 33 (0, 0))) := hzB
    have f9 : (((((w0.drew.alloc (.cells (bcells zsec).toArray 33)).alloc (.cells (bcells zsec).toArray 33)).setCells w0.heap.size 0 (bcells c.1)).setCells (w0.heap.size + 1) 0 (bcells last)).heap[w0.heap.size]? = some (.cells (bcells c.1).toArray 33 (0, 0))) := by
      rw [heap_setCells_ne (by omega)]; exact heap_fill hW9 (by simp)
    have f10 : (((((w0.drew.alloc (.cells (bcells zsec).toArray 33)).alloc (.cells (bcells zsec).toArray 33)).setCells w0.heap.size 0 (bcells c.1)).setCells (w0.heap.size + 1) 0 (bcells last)).heap[(w0.heap.size + 1)]? = some (.cells (bcells last).toArray 33 (0, 0))) :=
      heap_fill (by rw [heap_setCells_ne (by omega)]; exact hW10) (by simp)
    have fr : (((((w0.drew.alloc (.cells (bcells zsec).toArray 33)).alloc (.cells (bcells zsec).toArray 33)).setCells w0.heap.size 0 (bcells c.1)).setCells (w0.heap.size + 1) 0 (bcells last)).heap[w.heap.size + 1]? = some (.cells (ccells (zsec, false)).toArray 73 (0, 0))) := by
      rw [heap_setCells_ne (by omega), heap_setCells_ne (by omega)]; exact hzr
    have fg : 1 < n → (((((w0.drew.alloc (.cells (bcells zsec).toArray 33)).alloc (.cells (bcells zsec).toArray 33)).setCells w0.heap.size 0 (bcells c.1)).setCells (w0.heap.size + 1) 0 (bcells last)).rangeAt g ((k - 1) * 64) (bcells before)) := fun h =>
      World.rangeAt_setCells_apart (World.rangeAt_setCells_apart (World.rangeAt_alloc (World.rangeAt_alloc (World.rangeAt_drew _ _ _ _ |>.2 (hg2 h)) _) _) _ _ _ (.inl (by omega))) _ _ _ (.inl (by omega))
    have fK : Kp (fun _ => False) w ((((w0.drew.alloc (.cells (bcells zsec).toArray 33)).alloc (.cells (bcells zsec).toArray 33)).setCells w0.heap.size 0 (bcells c.1)).setCells (w0.heap.size + 1) 0 (bcells last)) :=
      Kp.setCells (fun h => absurd h (by omega)) _ _ _ (Kp.setCells (fun h => absurd h (by omega)) _ _ _ ((hK0.drew.alloc _).alloc _))
    have hne : w0.heap.size ≠ (w0.heap.size + 1) := by omega
    have hn9 : w.heap.size + 2 ≤ w0.heap.size := by omega
    have hn10 : w.heap.size + 2 ≤ (w0.heap.size + 1) := by omega
    generalize (((w0.drew.alloc (.cells (bcells zsec).toArray 33)).alloc (.cells (bcells zsec).toArray 33)).setCells w0.heap.size 0 (bcells c.1)).setCells (w0.heap.size + 1) 0 (bcells last) = W at *
    obtain ⟨b9, hb9⟩ : ∃ b9, b9 = w0.heap.size := ⟨_, rfl⟩
    obtain ⟨b10, hb10⟩ : ∃ b10, b10 = (w0.heap.size + 1) := ⟨_, rfl⟩
    rw [← hb10] at f10 hne hn10
    rw [← hb9] at f9 hne hn9
    try rw [← hb10]
    try rw [← hb9]
    have HA := Lib.hid (And.intro f9 (And.intro f10 (And.intro fr (And.intro fK (And.intro hne (And.intro hn9 hn10))))))
    have HG := Lib.hid fg
    have HBB := Lib.hid (And.intro hb9 hb10)
    clear f9 f10 fr fK hne hn9 hn10 fg hW9 hW10 hb9 hb10 hthA hthB hzA hzB hzr hg2 hS0 hb hr0 hK0 hu hi hi1 hone hone1 hl1 hl2 hg0
    by_cases h1 : 1 < n
    · have hbf := HG.out h1
      have h1' : (1 : Int) < (n : Int) := by omega
      obtain ⟨k2, hk2⟩ : ∃ k2, k - 1 = k2 := ⟨_, rfl⟩
      rw [hk2] at hbf
      have hq1 : (n : Int) - 2 = (k2 : Int) := by have := HKN.out; omega
      have hq2 : (0 : Int) ≤ (k2 : Int) := by omega
      have hq3 : (k2 : Int) < (n : Int) := by omega
      have HBF := Lib.hid hbf
      clear hbf hk2 h1
      by_cases he : before = last
      · have hd : decide (before = last) = true := by simp [he]
        have HE := Lib.hid he
        clear he
        go_wp2_with (first
          | ((with_reducible show wpList _ _ _ (Oper.mk _ (Op.load 33 (Operand.tmp 55)) _ _ _ _ :: _) _ _); refine wpList_loadA 33 _ rfl _ rfl g (k2 * 64) (by simp [Act.eval]) (bcells before) HBF.out Try.underlying33 rfl (lenSec _) ?_)
          | ((with_reducible show wpList _ _ _ (Oper.mk _ (Op.store 33 (Operand.tmp 9) _) _ _ _ _ :: _) _ _); refine wpList_storeA 33 rfl _ _ rfl b9 0 (bcells before) (by rfl) (by rfl) (there_all HA.out.1 (by simp)) (lenSec _) (bcells_one _) ?_)
          | ((with_reducible show wpList _ _ _ (Oper.mk _ (Op.load 33 (Operand.tmp 9)) _ _ _ _ :: _) _ _); refine wpList_loadA 33 _ rfl _ rfl b9 0 (by rfl) (bcells before) (range_all (heap_fill HA.out.1 (by simp))) Try.underlying33 rfl (lenSec _) ?_)
          | ((with_reducible show wpList _ _ _ (Oper.mk _ (Op.binOp _ 33 _ _ _) _ _ _ _ :: _) _ _); refine wpList_eqB Try.underlying33 Try.underlying5 (by kernel_rfl) (by kernel_rfl) rfl _ _ rfl before last (by rfl) (by rfl) ?_; rw [hd])
          | ((with_reducible show wpList _ _ _ (Oper.mk _ (Op.load 33 (Operand.tmp 10)) _ _ _ _ :: _) _ _); refine wpList_loadA 33 _ rfl _ rfl b10 0 (by rfl) (bcells last) (range_all ((heap_setCells_ne (Ne.symm HA.out.2.2.2.2.1) _ _ _).trans HA.out.2.1)) Try.underlying33 rfl (lenSec _) ?_)
          | ((with_reducible show wpList _ _ _ (Oper.mk _ (Op.build _ _) _ _ _ _ :: _) _ _); refine wpList_buildA (av (ccells (last, false))) 73 rfl _ rfl #[(0, av (bcells last))] (by simp [Act.eval, Act.put]) (buildCell last _) ?_)
          | ((with_reducible show wpList _ _ _ (Oper.mk _ (Op.store 73 _ _) _ _ _ _ :: _) _ _); refine wpList_storeA 73 rfl _ _ rfl (w.heap.size + 1) 0 (ccells (last, false)) (by rfl) (by rfl) (there_all ((heap_setCells_ne (by have := HA.out.2.2.2.2.2.1; omega) _ _ _).trans HA.out.2.2.1) (by simp)) (lenCell _) (ccells_one _) ?_))
        have htorn : tornS last before = last := by rw [HE.out, tornS_self]
        refine bodyPost_ret (results_cell1 rfl _ _ (w.heap.size + 1) 0 rfl (av (ccells (last, false))) (run_loadVar_at Try.underlying73 rfl _ _ _ (ccells _) (lenCell _) ?_)) rfl ⟨by rw [htorn], ?_⟩
        · exact World.rangeAt_setCells_same _ _ _ _ (there_all ((heap_setCells_ne (by have := HA.out.2.2.2.2.2.1; omega) _ _ _).trans HA.out.2.2.1) (by simp))
        · have := HA.out.2.2.2.2.2.1
          exact Kp.setCells (fun h => absurd h (by omega)) _ _ _ (Kp.setCells (fun h => absurd h (by omega)) _ _ _ HA.out.2.2.2.1)
      · have hd : decide (before = last) = false := by simp [he]
        clear he
        go_wp2_with (first
          | ((with_reducible show wpList _ _ _ (Oper.mk _ (Op.load 33 (Operand.tmp 55)) _ _ _ _ :: _) _ _); refine wpList_loadA 33 _ rfl _ rfl g (k2 * 64) (by simp [Act.eval]) (bcells before) HBF.out Try.underlying33 rfl (lenSec _) ?_)
          | ((with_reducible show wpList _ _ _ (Oper.mk _ (Op.store 33 (Operand.tmp 9) _) _ _ _ _ :: _) _ _); refine wpList_storeA 33 rfl _ _ rfl b9 0 (bcells before) (by rfl) (by rfl) (there_all HA.out.1 (by simp)) (lenSec _) (bcells_one _) ?_)
          | ((with_reducible show wpList _ _ _ (Oper.mk _ (Op.load 33 (Operand.tmp 9)) _ _ _ _ :: _) _ _); refine wpList_loadA 33 _ rfl _ rfl b9 0 (by rfl) (bcells before) (range_all (heap_fill HA.out.1 (by simp))) Try.underlying33 rfl (lenSec _) ?_)
          | ((with_reducible show wpList _ _ _ (Oper.mk _ (Op.binOp _ 33 _ _ _) _ _ _ _ :: _) _ _); refine wpList_eqB Try.underlying33 Try.underlying5 (by kernel_rfl) (by kernel_rfl) rfl _ _ rfl before last (by rfl) (by rfl) ?_; rw [hd])
          | ((with_reducible show wpList _ _ _ (Oper.mk _ (Op.load 33 (Operand.tmp 10)) _ _ _ _ :: _) _ _); refine wpList_loadA 33 _ rfl _ rfl b10 0 (by rfl) (bcells last) (range_all ((heap_setCells_ne (Ne.symm HA.out.2.2.2.2.1) _ _ _).trans HA.out.2.1)) Try.underlying33 rfl (lenSec _) ?_))
        obtain ⟨W1, hW1⟩ : ∃ W1, W1 = (W.setCells b9 0 (bcells before)) := ⟨_, rfl⟩
        have g9 : W1.heap[b9]? = some (.cells (bcells before).toArray 33 (0, 0)) := by rw [hW1]; exact (heap_fill HA.out.1 (by simp))
        have g10 : W1.heap[b10]? = some (.cells (bcells last).toArray 33 (0, 0)) := by rw [hW1]; exact ((heap_setCells_ne (Ne.symm HA.out.2.2.2.2.1) _ _ _).trans HA.out.2.1)
        have gr : W1.heap[w.heap.size + 1]? = some (.cells (ccells (zsec, false)).toArray 73 (0, 0)) := by rw [hW1]; exact ((heap_setCells_ne (by have := HA.out.2.2.2.2.2.1; omega) _ _ _).trans HA.out.2.2.1)
        have gK : Kp (fun _ => False) w W1 := by
          have := HA.out.2.2.2.2.2.1
          rw [hW1]; exact (Kp.setCells (fun h => absurd h (by omega)) _ _ _ HA.out.2.2.2.1)
        have hge := HA.out.2.2.2.2.2.2
        rw [← hW1]
        have HGG := Lib.hid (And.intro g9 (And.intro g10 (And.intro gr (And.intro gK hge))))
        clear g9 g10 gr gK hge hW1
        refine wp_region_still_tail 2 (by kernel_rfl) (by kernel_rfl) ?_
        simp only [List.take_succ_cons, List.take_zero, List.drop_succ_cons, List.drop_zero]
        change wpStill _ _ W1.drew _ _ _
        repeat still_step
        refine wpStill_nil ?_
        change wpList _ _ _ _ _ W1.drew
        have hcp := fun ty => run_copy_cells (P := Try.prog) W1.drew 67 67 ty 5 b10 32 32 32 ⟨b9, 32, none⟩ 32 32 ((bcells before).drop 32) Try.underlying67 (by kernel_rfl) (by simp)
          (fun j v hv => by
            rw [Addr.add_mid]
            have := range_all HGG.out.1 (32 + j) v (by rw [List.getElem?_drop] at hv; exact hv)
            simpa using this)
          (fun j hj => by have := (there_all (n := 64) HGG.out.2.1 (by simp) (32 + j) (by simp at hj; omega)).1; simpa using this)
          (fun j hj => by have := (there_all (n := 64) HGG.out.2.1 (by simp) (32 + j) (by simp at hj; omega)).2; simpa using this)
          (fun v hv => bcells_one before v (List.mem_of_mem_drop hv))
        have k10 : (W1.drew.setCells b10 32 ((bcells before).drop 32)).heap[b10]? = some (.cells (bcells (tornS last before)).toArray 33 (0, 0)) := by
          rw [heap_setCells_same _ 32 W1.drew (bcells last) HGG.out.2.1 (by simp), bcells_torn]
        have kr : (W1.drew.setCells b10 32 ((bcells before).drop 32)).heap[w.heap.size + 1]? = some (.cells (ccells (zsec, false)).toArray 73 (0, 0)) := by
          have := HGG.out.2.2.2.2
          rw [heap_setCells_ne (by omega)]; exact HGG.out.2.2.1
        have HK10 := Lib.hid (And.intro k10 kr)
        clear k10 kr
        go_wp2_with (first
          | ((with_reducible show wpList _ _ _ (Oper.mk _ (Op.load 33 (Operand.tmp 10)) _ _ _ _ :: _) _ _); refine wpList_loadA 33 _ rfl _ rfl b10 0 (by rfl) (bcells (tornS last before)) (range_all HK10.out.1) Try.underlying33 rfl (lenSec _) ?_)
          | ((with_reducible show wpList _ _ _ (Oper.mk _ (Op.build _ _) _ _ _ _ :: _) _ _); refine wpList_buildA (av (ccells (tornS last before, false))) 73 rfl _ rfl #[(0, av (bcells (tornS last before)))] (by simp [Act.eval, Act.put]) (buildCell _ _) ?_)
          | ((with_reducible show wpList _ _ _ (Oper.mk _ (Op.store 73 _ _) _ _ _ _ :: _) _ _); refine wpList_storeA 73 rfl _ _ rfl (w.heap.size + 1) 0 (ccells (tornS last before, false)) (by rfl) (by rfl) (there_all HK10.out.2 (by simp)) (lenCell _) (ccells_one _) ?_))
        refine bodyPost_ret (results_cell1 rfl _ _ (w.heap.size + 1) 0 rfl (av (ccells (tornS last before, false))) (run_loadVar_at Try.underlying73 rfl _ _ _ (ccells _) (lenCell _) ?_)) rfl ⟨rfl, ?_⟩
        · exact World.rangeAt_setCells_same _ _ _ _ (there_all HK10.out.2 (by simp))
        · have := HGG.out.2.2.2.2
          exact Kp.setCells (fun h => absurd h (by omega)) _ _ _ (Kp.setCells (fun h => absurd h (by omega)) _ _ _ HGG.out.2.2.2.1.drew)
    · have h1' : ¬ (1 : Int) < (n : Int) := by omega
      have hbc : before = c.1 := HS1.out (by omega)
      obtain ⟨c1, c2⟩ := c
      simp only at hbc
      subst hbc
      clear h1
      by_cases he : before = last
      · have hd : decide (before = last) = true := by simp [he]
        have HE := Lib.hid he
        clear he
        go_wp2_with (first
          | ((with_reducible show wpList _ _ _ (Oper.mk _ (Op.load 33 (Operand.tmp 9)) _ _ _ _ :: _) _ _); refine wpList_loadA 33 _ rfl _ rfl b9 0 (by rfl) (bcells before) (range_all HA.out.1) Try.underlying33 rfl (lenSec _) ?_)
          | ((with_reducible show wpList _ _ _ (Oper.mk _ (Op.binOp _ 33 _ _ _) _ _ _ _ :: _) _ _); refine wpList_eqB Try.underlying33 Try.underlying5 (by kernel_rfl) (by kernel_rfl) rfl _ _ rfl before last (by rfl) (by rfl) ?_; rw [hd])
          | ((with_reducible show wpList _ _ _ (Oper.mk _ (Op.load 33 (Operand.tmp 10)) _ _ _ _ :: _) _ _); refine wpList_loadA 33 _ rfl _ rfl b10 0 (by rfl) (bcells last) (range_all HA.out.2.1) Try.underlying33 rfl (lenSec _) ?_)
          | ((with_reducible show wpList _ _ _ (Oper.mk _ (Op.build _ _) _ _ _ _ :: _) _ _); refine wpList_buildA (av (ccells (last, false))) 73 rfl _ rfl #[(0, av (bcells last))] (by simp [Act.eval, Act.put]) (buildCell last _) ?_)
          | ((with_reducible show wpList _ _ _ (Oper.mk _ (Op.store 73 _ _) _ _ _ _ :: _) _ _); refine wpList_storeA 73 rfl _ _ rfl (w.heap.size + 1) 0 (ccells (last, false)) (by rfl) (by rfl) (there_all HA.out.2.2.1 (by simp)) (lenCell _) (ccells_one _) ?_))
        have htorn : tornS last before = last := by rw [HE.out, tornS_self]
        refine bodyPost_ret (results_cell1 rfl _ _ (w.heap.size + 1) 0 rfl (av (ccells (last, false))) (run_loadVar_at Try.underlying73 rfl _ _ _ (ccells _) (lenCell _) ?_)) rfl ⟨by rw [htorn], ?_⟩
        · exact World.rangeAt_setCells_same _ _ _ _ (there_all HA.out.2.2.1 (by simp))
        · have := HA.out.2.2.2.2.2.1
          exact Kp.setCells (fun h => absurd h (by omega)) _ _ _ HA.out.2.2.2.1
      · have hd : decide (before = last) = false := by simp [he]
        clear he
        go_wp2_with (first
          | ((with_reducible show wpList _ _ _ (Oper.mk _ (Op.load 33 (Operand.tmp 9)) _ _ _ _ :: _) _ _); refine wpList_loadA 33 _ rfl _ rfl b9 0 (by rfl) (bcells before) (range_all HA.out.1) Try.underlying33 rfl (lenSec _) ?_)
          | ((with_reducible show wpList _ _ _ (Oper.mk _ (Op.binOp _ 33 _ _ _) _ _ _ _ :: _) _ _); refine wpList_eqB Try.underlying33 Try.underlying5 (by kernel_rfl) (by kernel_rfl) rfl _ _ rfl before last (by rfl) (by rfl) ?_; rw [hd])
          | ((with_reducible show wpList _ _ _ (Oper.mk _ (Op.load 33 (Operand.tmp 10)) _ _ _ _ :: _) _ _); refine wpList_loadA 33 _ rfl _ rfl b10 0 (by rfl) (bcells last) (range_all HA.out.2.1) Try.underlying33 rfl (lenSec _) ?_))
        obtain ⟨W1, hW1⟩ : ∃ W1, W1 = W := ⟨_, rfl⟩
        have g9 : W1.heap[b9]? = some (.cells (bcells before).toArray 33 (0, 0)) := by rw [hW1]; exact HA.out.1
        have g10 : W1.heap[b10]? = some (.cells (bcells last).toArray 33 (0, 0)) := by rw [hW1]; exact HA.out.2.1
        have gr : W1.heap[w.heap.size + 1]? = some (.cells (ccells (zsec, false)).toArray 73 (0, 0)) := by rw [hW1]; exact HA.out.2.2.1
        have gK : Kp (fun _ => False) w W1 := by
          have := HA.out.2.2.2.2.2.1
          rw [hW1]; exact HA.out.2.2.2.1
        have hge := HA.out.2.2.2.2.2.2
        rw [← hW1]
        have HGG := Lib.hid (And.intro g9 (And.intro g10 (And.intro gr (And.intro gK hge))))
        clear g9 g10 gr gK hge hW1
        refine wp_region_still_tail 2 (by kernel_rfl) (by kernel_rfl) ?_
        simp only [List.take_succ_cons, List.take_zero, List.drop_succ_cons, List.drop_zero]
        change wpStill _ _ W1.drew _ _ _
        repeat still_step
        refine wpStill_nil ?_
        change wpList _ _ _ _ _ W1.drew
        have hcp := fun ty => run_copy_cells (P := Try.prog) W1.drew 67 67 ty 5 b10 32 32 32 ⟨b9, 32, none⟩ 32 32 ((bcells before).drop 32) Try.underlying67 (by kernel_rfl) (by simp)
          (fun j v hv => by
            rw [Addr.add_mid]
            have := range_all HGG.out.1 (32 + j) v (by rw [List.getElem?_drop] at hv; exact hv)
            simpa using this)
          (fun j hj => by have := (there_all (n := 64) HGG.out.2.1 (by simp) (32 + j) (by simp at hj; omega)).1; simpa using this)
          (fun j hj => by have := (there_all (n := 64) HGG.out.2.1 (by simp) (32 + j) (by simp at hj; omega)).2; simpa using this)
          (fun v hv => bcells_one before v (List.mem_of_mem_drop hv))
        have k10 : (W1.drew.setCells b10 32 ((bcells before).drop 32)).heap[b10]? = some (.cells (bcells (tornS last before)).toArray 33 (0, 0)) := by
          rw [heap_setCells_same _ 32 W1.drew (bcells last) HGG.out.2.1 (by simp), bcells_torn]
        have kr : (W1.drew.setCells b10 32 ((bcells before).drop 32)).heap[w.heap.size + 1]? = some (.cells (ccells (zsec, false)).toArray 73 (0, 0)) := by
          have := HGG.out.2.2.2.2
          rw [heap_setCells_ne (by omega)]; exact HGG.out.2.2.1
        have HK10 := Lib.hid (And.intro k10 kr)
        clear k10 kr
        go_wp2_with (first
          | ((with_reducible show wpList _ _ _ (Oper.mk _ (Op.load 33 (Operand.tmp 10)) _ _ _ _ :: _) _ _); refine wpList_loadA 33 _ rfl _ rfl b10 0 (by rfl) (bcells (tornS last before)) (range_all HK10.out.1) Try.underlying33 rfl (lenSec _) ?_)
          | ((with_reducible show wpList _ _ _ (Oper.mk _ (Op.build _ _) _ _ _ _ :: _) _ _); refine wpList_buildA (av (ccells (tornS last before, false))) 73 rfl _ rfl #[(0, av (bcells (tornS last before)))] (by simp [Act.eval, Act.put]) (buildCell _ _) ?_)
          | ((with_reducible show wpList _ _ _ (Oper.mk _ (Op.store 73 _ _) _ _ _ _ :: _) _ _); refine wpList_storeA 73 rfl _ _ rfl (w.heap.size + 1) 0 (ccells (tornS last before, false)) (by rfl) (by rfl) (there_all HK10.out.2 (by simp)) (lenCell _) (ccells_one _) ?_))
        refine bodyPost_ret (results_cell1 rfl _ _ (w.heap.size + 1) 0 rfl (av (ccells (tornS last before, false))) (run_loadVar_at Try.underlying73 rfl _ _ _ (ccells _) (lenCell _) ?_)) rfl ⟨rfl, ?_⟩
        · exact World.rangeAt_setCells_same _ _ _ _ (there_all HK10.out.2 (by simp))
        · have := HGG.out.2.2.2.2
          exact Kp.setCells (fun h => absurd h (by omega)) _ _ _ (Kp.setCells (fun h => absurd h (by omega)) _ _ _ HGG.out.2.2.2.1.drew)
  · refine wpOp_allocA 33 (bcells zsec) rfl rfl rfl zeroSec ⟨⟨World.rangeAt_alloc hS0.1 _, World.rangeAt_alloc hS0.2 _⟩, ?_⟩
    refine anyH_one (i := 7) (by kernel_rfl) ?_
    refine wpOp_allocA 33 (bcells zsec) rfl rfl rfl zeroSec ⟨⟨World.rangeAt_alloc (World.rangeAt_alloc hS0.1 _) _, World.rangeAt_alloc (World.rangeAt_alloc hS0.2 _) _⟩, ?_⟩
    refine anyH_one (i := 9) (by kernel_rfl) ?_
    refine wpOp_storeA 33 _ _ (w0.heap.size + 1) 0 (bcells c.1) rfl rfl rfl (by simp [Act.eval, Act.put]) (by simp [Act.eval, Act.put, av]) (hthB) (lenSec _) (bcells_one _) ⟨?_, ?_⟩
    · exact ⟨World.rangeAt_setCells_apart (World.rangeAt_alloc (World.rangeAt_alloc hS0.1 _) _) _ _ _ (.inl (by omega)), World.rangeAt_setCells_apart (World.rangeAt_alloc (World.rangeAt_alloc hS0.2 _) _) _ _ _ (.inl (by omega))⟩
    refine anyH_one (i := 10) (by kernel_rfl) ?_
    refine wpOp_storeA 33 _ _ w0.heap.size 0 (bcells last) rfl rfl rfl (by simp [Act.eval, Act.put]) (by simp [Act.eval, Act.put, av]) (by simpa using World.there_setCells hthA _ _ _) (lenSec _) (bcells_one _) ⟨?_, ?_⟩
    · exact ⟨World.rangeAt_setCells_apart (World.rangeAt_setCells_apart (World.rangeAt_alloc (World.rangeAt_alloc hS0.1 _) _) _ _ _ (.inl (by omega))) _ _ _ (.inl (by omega)), World.rangeAt_setCells_apart (World.rangeAt_setCells_apart (World.rangeAt_alloc (World.rangeAt_alloc hS0.2 _) _) _ _ _ (.inl (by omega))) _ _ _ (.inl (by omega))⟩
    refine wpAnyH_done (by kernel_rfl) ?_ _
    simp only [Act.put, List.getElem_toArray, List.getElem_cons_zero, List.getElem_cons_succ, List.setIfInBounds_toArray, List.set_cons_zero, List.set_cons_succ, World.size_alloc, World.size_drew]
    have hW9 : (((w0.drew.alloc (.cells (bcells zsec).toArray 33)).alloc (.cells (bcells zsec).toArray 33)).heap[(w0.heap.size + 1)]? = some (.cells (bcells zsec).toArray 33 (0, 0))) := hzB
    have hW10 : (((w0.drew.alloc (.cells (bcells zsec).toArray 33)).alloc (.cells (bcells zsec).toArray 33)).heap[w0.heap.size]? = some (.cells (bcells zsec).toArray 33 (0, 0))) := hzA
    have f9 : (((((w0.drew.alloc (.cells (bcells zsec).toArray 33)).alloc (.cells (bcells zsec).toArray 33)).setCells (w0.heap.size + 1) 0 (bcells c.1)).setCells w0.heap.size 0 (bcells last)).heap[(w0.heap.size + 1)]? = some (.cells (bcells c.1).toArray 33 (0, 0))) := by
      rw [heap_setCells_ne (by omega)]; exact heap_fill hW9 (by simp)
    have f10 : (((((w0.drew.alloc (.cells (bcells zsec).toArray 33)).alloc (.cells (bcells zsec).toArray 33)).setCells (w0.heap.size + 1) 0 (bcells c.1)).setCells w0.heap.size 0 (bcells last)).heap[w0.heap.size]? = some (.cells (bcells last).toArray 33 (0, 0))) :=
      heap_fill (by rw [heap_setCells_ne (by omega)]; exact hW10) (by simp)
    have fr : (((((w0.drew.alloc (.cells (bcells zsec).toArray 33)).alloc (.cells (bcells zsec).toArray 33)).setCells (w0.heap.size + 1) 0 (bcells c.1)).setCells w0.heap.size 0 (bcells last)).heap[w.heap.size + 1]? = some (.cells (ccells (zsec, false)).toArray 73 (0, 0))) := by
      rw [heap_setCells_ne (by omega), heap_setCells_ne (by omega)]; exact hzr
    have fg : 1 < n → (((((w0.drew.alloc (.cells (bcells zsec).toArray 33)).alloc (.cells (bcells zsec).toArray 33)).setCells (w0.heap.size + 1) 0 (bcells c.1)).setCells w0.heap.size 0 (bcells last)).rangeAt g ((k - 1) * 64) (bcells before)) := fun h =>
      World.rangeAt_setCells_apart (World.rangeAt_setCells_apart (World.rangeAt_alloc (World.rangeAt_alloc (World.rangeAt_drew _ _ _ _ |>.2 (hg2 h)) _) _) _ _ _ (.inl (by omega))) _ _ _ (.inl (by omega))
    have fK : Kp (fun _ => False) w ((((w0.drew.alloc (.cells (bcells zsec).toArray 33)).alloc (.cells (bcells zsec).toArray 33)).setCells (w0.heap.size + 1) 0 (bcells c.1)).setCells w0.heap.size 0 (bcells last)) :=
      Kp.setCells (fun h => absurd h (by omega)) _ _ _ (Kp.setCells (fun h => absurd h (by omega)) _ _ _ ((hK0.drew.alloc _).alloc _))
    have hne : (w0.heap.size + 1) ≠ w0.heap.size := by omega
    have hn9 : w.heap.size + 2 ≤ (w0.heap.size + 1) := by omega
    have hn10 : w.heap.size + 2 ≤ w0.heap.size := by omega
    generalize (((w0.drew.alloc (.cells (bcells zsec).toArray 33)).alloc (.cells (bcells zsec).toArray 33)).setCells (w0.heap.size + 1) 0 (bcells c.1)).setCells w0.heap.size 0 (bcells last) = W at *
    obtain ⟨b9, hb9⟩ : ∃ b9, b9 = (w0.heap.size + 1) := ⟨_, rfl⟩
    obtain ⟨b10, hb10⟩ : ∃ b10, b10 = w0.heap.size := ⟨_, rfl⟩
    rw [← hb9] at f9 hne hn9
    rw [← hb10] at f10 hne hn10
    try rw [← hb9]
    try rw [← hb10]
    have HA := Lib.hid (And.intro f9 (And.intro f10 (And.intro fr (And.intro fK (And.intro hne (And.intro hn9 hn10))))))
    have HG := Lib.hid fg
    have HBB := Lib.hid (And.intro hb9 hb10)
    clear f9 f10 fr fK hne hn9 hn10 fg hW9 hW10 hb9 hb10 hthA hthB hzA hzB hzr hg2 hS0 hb hr0 hK0 hu hi hi1 hone hone1 hl1 hl2 hg0
    by_cases h1 : 1 < n
    · have hbf := HG.out h1
      have h1' : (1 : Int) < (n : Int) := by omega
      obtain ⟨k2, hk2⟩ : ∃ k2, k - 1 = k2 := ⟨_, rfl⟩
      rw [hk2] at hbf
      have hq1 : (n : Int) - 2 = (k2 : Int) := by have := HKN.out; omega
      have hq2 : (0 : Int) ≤ (k2 : Int) := by omega
      have hq3 : (k2 : Int) < (n : Int) := by omega
      have HBF := Lib.hid hbf
      clear hbf hk2 h1
      by_cases he : before = last
      · have hd : decide (before = last) = true := by simp [he]
        have HE := Lib.hid he
        clear he
        go_wp2_with (first
          | ((with_reducible show wpList _ _ _ (Oper.mk _ (Op.load 33 (Operand.tmp 55)) _ _ _ _ :: _) _ _); refine wpList_loadA 33 _ rfl _ rfl g (k2 * 64) (by simp [Act.eval]) (bcells before) HBF.out Try.underlying33 rfl (lenSec _) ?_)
          | ((with_reducible show wpList _ _ _ (Oper.mk _ (Op.store 33 (Operand.tmp 9) _) _ _ _ _ :: _) _ _); refine wpList_storeA 33 rfl _ _ rfl b9 0 (bcells before) (by rfl) (by rfl) (there_all HA.out.1 (by simp)) (lenSec _) (bcells_one _) ?_)
          | ((with_reducible show wpList _ _ _ (Oper.mk _ (Op.load 33 (Operand.tmp 9)) _ _ _ _ :: _) _ _); refine wpList_loadA 33 _ rfl _ rfl b9 0 (by rfl) (bcells before) (range_all (heap_fill HA.out.1 (by simp))) Try.underlying33 rfl (lenSec _) ?_)
          | ((with_reducible show wpList _ _ _ (Oper.mk _ (Op.binOp _ 33 _ _ _) _ _ _ _ :: _) _ _); refine wpList_eqB Try.underlying33 Try.underlying5 (by kernel_rfl) (by kernel_rfl) rfl _ _ rfl before last (by rfl) (by rfl) ?_; rw [hd])
          | ((with_reducible show wpList _ _ _ (Oper.mk _ (Op.load 33 (Operand.tmp 10)) _ _ _ _ :: _) _ _); refine wpList_loadA 33 _ rfl _ rfl b10 0 (by rfl) (bcells last) (range_all ((heap_setCells_ne (Ne.symm HA.out.2.2.2.2.1) _ _ _).trans HA.out.2.1)) Try.underlying33 rfl (lenSec _) ?_)
          | ((with_reducible show wpList _ _ _ (Oper.mk _ (Op.build _ _) _ _ _ _ :: _) _ _); refine wpList_buildA (av (ccells (last, false))) 73 rfl _ rfl #[(0, av (bcells last))] (by simp [Act.eval, Act.put]) (buildCell last _) ?_)
          | ((with_reducible show wpList _ _ _ (Oper.mk _ (Op.store 73 _ _) _ _ _ _ :: _) _ _); refine wpList_storeA 73 rfl _ _ rfl (w.heap.size + 1) 0 (ccells (last, false)) (by rfl) (by rfl) (there_all ((heap_setCells_ne (by have := HA.out.2.2.2.2.2.1; omega) _ _ _).trans HA.out.2.2.1) (by simp)) (lenCell _) (ccells_one _) ?_))
        have htorn : tornS last before = last := by rw [HE.out, tornS_self]
        refine bodyPost_ret (results_cell1 rfl _ _ (w.heap.size + 1) 0 rfl (av (ccells (last, false))) (run_loadVar_at Try.underlying73 rfl _ _ _ (ccells _) (lenCell _) ?_)) rfl ⟨by rw [htorn], ?_⟩
        · exact World.rangeAt_setCells_same _ _ _ _ (there_all ((heap_setCells_ne (by have := HA.out.2.2.2.2.2.1; omega) _ _ _).trans HA.out.2.2.1) (by simp))
        · have := HA.out.2.2.2.2.2.1
          exact Kp.setCells (fun h => absurd h (by omega)) _ _ _ (Kp.setCells (fun h => absurd h (by omega)) _ _ _ HA.out.2.2.2.1)
      · have hd : decide (before = last) = false := by simp [he]
        clear he
        go_wp2_with (first
          | ((with_reducible show wpList _ _ _ (Oper.mk _ (Op.load 33 (Operand.tmp 55)) _ _ _ _ :: _) _ _); refine wpList_loadA 33 _ rfl _ rfl g (k2 * 64) (by simp [Act.eval]) (bcells before) HBF.out Try.underlying33 rfl (lenSec _) ?_)
          | ((with_reducible show wpList _ _ _ (Oper.mk _ (Op.store 33 (Operand.tmp 9) _) _ _ _ _ :: _) _ _); refine wpList_storeA 33 rfl _ _ rfl b9 0 (bcells before) (by rfl) (by rfl) (there_all HA.out.1 (by simp)) (lenSec _) (bcells_one _) ?_)
          | ((with_reducible show wpList _ _ _ (Oper.mk _ (Op.load 33 (Operand.tmp 9)) _ _ _ _ :: _) _ _); refine wpList_loadA 33 _ rfl _ rfl b9 0 (by rfl) (bcells before) (range_all (heap_fill HA.out.1 (by simp))) Try.underlying33 rfl (lenSec _) ?_)
          | ((with_reducible show wpList _ _ _ (Oper.mk _ (Op.binOp _ 33 _ _ _) _ _ _ _ :: _) _ _); refine wpList_eqB Try.underlying33 Try.underlying5 (by kernel_rfl) (by kernel_rfl) rfl _ _ rfl before last (by rfl) (by rfl) ?_; rw [hd])
          | ((with_reducible show wpList _ _ _ (Oper.mk _ (Op.load 33 (Operand.tmp 10)) _ _ _ _ :: _) _ _); refine wpList_loadA 33 _ rfl _ rfl b10 0 (by rfl) (bcells last) (range_all ((heap_setCells_ne (Ne.symm HA.out.2.2.2.2.1) _ _ _).trans HA.out.2.1)) Try.underlying33 rfl (lenSec _) ?_))
        obtain ⟨W1, hW1⟩ : ∃ W1, W1 = (W.setCells b9 0 (bcells before)) := ⟨_, rfl⟩
        have g9 : W1.heap[b9]? = some (.cells (bcells before).toArray 33 (0, 0)) := by rw [hW1]; exact (heap_fill HA.out.1 (by simp))
        have g10 : W1.heap[b10]? = some (.cells (bcells last).toArray 33 (0, 0)) := by rw [hW1]; exact ((heap_setCells_ne (Ne.symm HA.out.2.2.2.2.1) _ _ _).trans HA.out.2.1)
        have gr : W1.heap[w.heap.size + 1]? = some (.cells (ccells (zsec, false)).toArray 73 (0, 0)) := by rw [hW1]; exact ((heap_setCells_ne (by have := HA.out.2.2.2.2.2.1; omega) _ _ _).trans HA.out.2.2.1)
        have gK : Kp (fun _ => False) w W1 := by
          have := HA.out.2.2.2.2.2.1
          rw [hW1]; exact (Kp.setCells (fun h => absurd h (by omega)) _ _ _ HA.out.2.2.2.1)
        have hge := HA.out.2.2.2.2.2.2
        rw [← hW1]
        have HGG := Lib.hid (And.intro g9 (And.intro g10 (And.intro gr (And.intro gK hge))))
        clear g9 g10 gr gK hge hW1
        refine wp_region_still_tail 2 (by kernel_rfl) (by kernel_rfl) ?_
        simp only [List.take_succ_cons, List.take_zero, List.drop_succ_cons, List.drop_zero]
        change wpStill _ _ W1.drew _ _ _
        repeat still_step
        refine wpStill_nil ?_
        change wpList _ _ _ _ _ W1.drew
        have hcp := fun ty => run_copy_cells (P := Try.prog) W1.drew 67 67 ty 5 b10 32 32 32 ⟨b9, 32, none⟩ 32 32 ((bcells before).drop 32) Try.underlying67 (by kernel_rfl) (by simp)
          (fun j v hv => by
            rw [Addr.add_mid]
            have := range_all HGG.out.1 (32 + j) v (by rw [List.getElem?_drop] at hv; exact hv)
            simpa using this)
          (fun j hj => by have := (there_all (n := 64) HGG.out.2.1 (by simp) (32 + j) (by simp at hj; omega)).1; simpa using this)
          (fun j hj => by have := (there_all (n := 64) HGG.out.2.1 (by simp) (32 + j) (by simp at hj; omega)).2; simpa using this)
          (fun v hv => bcells_one before v (List.mem_of_mem_drop hv))
        have k10 : (W1.drew.setCells b10 32 ((bcells before).drop 32)).heap[b10]? = some (.cells (bcells (tornS last before)).toArray 33 (0, 0)) := by
          rw [heap_setCells_same _ 32 W1.drew (bcells last) HGG.out.2.1 (by simp), bcells_torn]
        have kr : (W1.drew.setCells b10 32 ((bcells before).drop 32)).heap[w.heap.size + 1]? = some (.cells (ccells (zsec, false)).toArray 73 (0, 0)) := by
          have := HGG.out.2.2.2.2
          rw [heap_setCells_ne (by omega)]; exact HGG.out.2.2.1
        have HK10 := Lib.hid (And.intro k10 kr)
        clear k10 kr
        go_wp2_with (first
          | ((with_reducible show wpList _ _ _ (Oper.mk _ (Op.load 33 (Operand.tmp 10)) _ _ _ _ :: _) _ _); refine wpList_loadA 33 _ rfl _ rfl b10 0 (by rfl) (bcells (tornS last before)) (range_all HK10.out.1) Try.underlying33 rfl (lenSec _) ?_)
          | ((with_reducible show wpList _ _ _ (Oper.mk _ (Op.build _ _) _ _ _ _ :: _) _ _); refine wpList_buildA (av (ccells (tornS last before, false))) 73 rfl _ rfl #[(0, av (bcells (tornS last before)))] (by simp [Act.eval, Act.put]) (buildCell _ _) ?_)
          | ((with_reducible show wpList _ _ _ (Oper.mk _ (Op.store 73 _ _) _ _ _ _ :: _) _ _); refine wpList_storeA 73 rfl _ _ rfl (w.heap.size + 1) 0 (ccells (tornS last before, false)) (by rfl) (by rfl) (there_all HK10.out.2 (by simp)) (lenCell _) (ccells_one _) ?_))
        refine bodyPost_ret (results_cell1 rfl _ _ (w.heap.size + 1) 0 rfl (av (ccells (tornS last before, false))) (run_loadVar_at Try.underlying73 rfl _ _ _ (ccells _) (lenCell _) ?_)) rfl ⟨rfl, ?_⟩
        · exact World.rangeAt_setCells_same _ _ _ _ (there_all HK10.out.2 (by simp))
        · have := HGG.out.2.2.2.2
          exact Kp.setCells (fun h => absurd h (by omega)) _ _ _ (Kp.setCells (fun h => absurd h (by omega)) _ _ _ HGG.out.2.2.2.1.drew)
    · have h1' : ¬ (1 : Int) < (n : Int) := by omega
      have hbc : before = c.1 := HS1.out (by omega)
      obtain ⟨c1, c2⟩ := c
      simp only at hbc
      subst hbc
      clear h1
      by_cases he : before = last
      · have hd : decide (before = last) = true := by simp [he]
        have HE := Lib.hid he
        clear he
        go_wp2_with (first
          | ((with_reducible show wpList _ _ _ (Oper.mk _ (Op.load 33 (Operand.tmp 9)) _ _ _ _ :: _) _ _); refine wpList_loadA 33 _ rfl _ rfl b9 0 (by rfl) (bcells before) (range_all HA.out.1) Try.underlying33 rfl (lenSec _) ?_)
          | ((with_reducible show wpList _ _ _ (Oper.mk _ (Op.binOp _ 33 _ _ _) _ _ _ _ :: _) _ _); refine wpList_eqB Try.underlying33 Try.underlying5 (by kernel_rfl) (by kernel_rfl) rfl _ _ rfl before last (by rfl) (by rfl) ?_; rw [hd])
          | ((with_reducible show wpList _ _ _ (Oper.mk _ (Op.load 33 (Operand.tmp 10)) _ _ _ _ :: _) _ _); refine wpList_loadA 33 _ rfl _ rfl b10 0 (by rfl) (bcells last) (range_all HA.out.2.1) Try.underlying33 rfl (lenSec _) ?_)
          | ((with_reducible show wpList _ _ _ (Oper.mk _ (Op.build _ _) _ _ _ _ :: _) _ _); refine wpList_buildA (av (ccells (last, false))) 73 rfl _ rfl #[(0, av (bcells last))] (by simp [Act.eval, Act.put]) (buildCell last _) ?_)
          | ((with_reducible show wpList _ _ _ (Oper.mk _ (Op.store 73 _ _) _ _ _ _ :: _) _ _); refine wpList_storeA 73 rfl _ _ rfl (w.heap.size + 1) 0 (ccells (last, false)) (by rfl) (by rfl) (there_all HA.out.2.2.1 (by simp)) (lenCell _) (ccells_one _) ?_))
        have htorn : tornS last before = last := by rw [HE.out, tornS_self]
        refine bodyPost_ret (results_cell1 rfl _ _ (w.heap.size + 1) 0 rfl (av (ccells (last, false))) (run_loadVar_at Try.underlying73 rfl _ _ _ (ccells _) (lenCell _) ?_)) rfl ⟨by rw [htorn], ?_⟩
        · exact World.rangeAt_setCells_same _ _ _ _ (there_all HA.out.2.2.1 (by simp))
        · have := HA.out.2.2.2.2.2.1
          exact Kp.setCells (fun h => absurd h (by omega)) _ _ _ HA.out.2.2.2.1
      · have hd : decide (before = last) = false := by simp [he]
        clear he
        go_wp2_with (first
          | ((with_reducible show wpList _ _ _ (Oper.mk _ (Op.load 33 (Operand.tmp 9)) _ _ _ _ :: _) _ _); refine wpList_loadA 33 _ rfl _ rfl b9 0 (by rfl) (bcells before) (range_all HA.out.1) Try.underlying33 rfl (lenSec _) ?_)
          | ((with_reducible show wpList _ _ _ (Oper.mk _ (Op.binOp _ 33 _ _ _) _ _ _ _ :: _) _ _); refine wpList_eqB Try.underlying33 Try.underlying5 (by kernel_rfl) (by kernel_rfl) rfl _ _ rfl before last (by rfl) (by rfl) ?_; rw [hd])
          | ((with_reducible show wpList _ _ _ (Oper.mk _ (Op.load 33 (Operand.tmp 10)) _ _ _ _ :: _) _ _); refine wpList_loadA 33 _ rfl _ rfl b10 0 (by rfl) (bcells last) (range_all HA.out.2.1) Try.underlying33 rfl (lenSec _) ?_))
        obtain ⟨W1, hW1⟩ : ∃ W1, W1 = W := ⟨_, rfl⟩
        have g9 : W1.heap[b9]? = some (.cells (bcells before).toArray 33 (0, 0)) := by rw [hW1]; exact HA.out.1
        have g10 : W1.heap[b10]? = some (.cells (bcells last).toArray 33 (0, 0)) := by rw [hW1]; exact HA.out.2.1
        have gr : W1.heap[w.heap.size + 1]? = some (.cells (ccells (zsec, false)).toArray 73 (0, 0)) := by rw [hW1]; exact HA.out.2.2.1
        have gK : Kp (fun _ => False) w W1 := by
          have := HA.out.2.2.2.2.2.1
          rw [hW1]; exact HA.out.2.2.2.1
        have hge := HA.out.2.2.2.2.2.2
        rw [← hW1]
        have HGG := Lib.hid (And.intro g9 (And.intro g10 (And.intro gr (And.intro gK hge))))
        clear g9 g10 gr gK hge hW1
        refine wp_region_still_tail 2 (by kernel_rfl) (by kernel_rfl) ?_
        simp only [List.take_succ_cons, List.take_zero, List.drop_succ_cons, List.drop_zero]
        change wpStill _ _ W1.drew _ _ _
        repeat still_step
        refine wpStill_nil ?_
        change wpList _ _ _ _ _ W1.drew
        have hcp := fun ty => run_copy_cells (P := Try.prog) W1.drew 67 67 ty 5 b10 32 32 32 ⟨b9, 32, none⟩ 32 32 ((bcells before).drop 32) Try.underlying67 (by kernel_rfl) (by simp)
          (fun j v hv => by
            rw [Addr.add_mid]
            have := range_all HGG.out.1 (32 + j) v (by rw [List.getElem?_drop] at hv; exact hv)
            simpa using this)
          (fun j hj => by have := (there_all (n := 64) HGG.out.2.1 (by simp) (32 + j) (by simp at hj; omega)).1; simpa using this)
          (fun j hj => by have := (there_all (n := 64) HGG.out.2.1 (by simp) (32 + j) (by simp at hj; omega)).2; simpa using this)
          (fun v hv => bcells_one before v (List.mem_of_mem_drop hv))
        have k10 : (W1.drew.setCells b10 32 ((bcells before).drop 32)).heap[b10]? = some (.cells (bcells (tornS last before)).toArray 33 (0, 0)) := by
          rw [heap_setCells_same _ 32 W1.drew (bcells last) HGG.out.2.1 (by simp), bcells_torn]
        have kr : (W1.drew.setCells b10 32 ((bcells before).drop 32)).heap[w.heap.size + 1]? = some (.cells (ccells (zsec, false)).toArray 73 (0, 0)) := by
          have := HGG.out.2.2.2.2
          rw [heap_setCells_ne (by omega)]; exact HGG.out.2.2.1
        have HK10 := Lib.hid (And.intro k10 kr)
        clear k10 kr
        go_wp2_with (first
          | ((with_reducible show wpList _ _ _ (Oper.mk _ (Op.load 33 (Operand.tmp 10)) _ _ _ _ :: _) _ _); refine wpList_loadA 33 _ rfl _ rfl b10 0 (by rfl) (bcells (tornS last before)) (range_all HK10.out.1) Try.underlying33 rfl (lenSec _) ?_)
          | ((with_reducible show wpList _ _ _ (Oper.mk _ (Op.build _ _) _ _ _ _ :: _) _ _); refine wpList_buildA (av (ccells (tornS last before, false))) 73 rfl _ rfl #[(0, av (bcells (tornS last before)))] (by simp [Act.eval, Act.put]) (buildCell _ _) ?_)
          | ((with_reducible show wpList _ _ _ (Oper.mk _ (Op.store 73 _ _) _ _ _ _ :: _) _ _); refine wpList_storeA 73 rfl _ _ rfl (w.heap.size + 1) 0 (ccells (tornS last before, false)) (by rfl) (by rfl) (there_all HK10.out.2 (by simp)) (lenCell _) (ccells_one _) ?_))
        refine bodyPost_ret (results_cell1 rfl _ _ (w.heap.size + 1) 0 rfl (av (ccells (tornS last before, false))) (run_loadVar_at Try.underlying73 rfl _ _ _ (ccells _) (lenCell _) ?_)) rfl ⟨rfl, ?_⟩
        · exact World.rangeAt_setCells_same _ _ _ _ (there_all HK10.out.2 (by simp))
        · have := HGG.out.2.2.2.2
          exact Kp.setCells (fun h => absurd h (by omega)) _ _ _ (Kp.setCells (fun h => absurd h (by omega)) _ _ _ HGG.out.2.2.2.1.drew)

theorem foundR_tmod (x : Int) (n : Nat) : (x.tmod ((n : Int) + 3) + n + 3).tmod ((n : Int) + 3) = foundR x n := rfl

theorem found_c (w : World) (c : Sec × Bool) (base g cap : Nat) (T : TypeId) (L : List Sec) (x : Int) (hL : L ≠ []) (hsm : L.length < 1073741824)
    (h : w.ownsRow base T 64 (.slice (some ⟨g, 0, none⟩) L.length cap) L.length (flatS L)) :
    Calls Try.prog 37 #[av (ccells c), .slice (some ⟨g, 0, none⟩) L.length cap, .int .i64 x] w fun e w' => e = .returned (av (ccells (foundC c L x))) ∧ Kp (fun _ => False) w w' := by
  have hn : 0 < L.length := List.length_pos_iff.2 hL
  obtain ⟨b1, b2, b3, b4⟩ := foundR_bounds x L.length
  by_cases h0 : foundR x L.length = 0
  · have := found_0 w c g L.length cap x _ _ rfl (foundR_tmod x _) b1 b2 b3 b4 hn hsm h0
    rw [show foundC c L x = c by simp [foundC, h0]]
    exact this
  by_cases h1 : foundR x L.length ≤ L.length
  · have := found_le w c g L.length cap x _ _ rfl (foundR_tmod x _) b1 b2 b3 b4 hn hsm (foundR x L.length - 1).toNat (L.getD (foundR x L.length - 1).toNat zsec) (by omega) (by omega) (loadS h _ (by omega))
    rw [show foundC c L x = (L.getD (foundR x L.length - 1).toNat zsec, false) by simp [foundC, h0, h1]]
    exact this
  by_cases h2 : foundR x L.length = L.length + 1
  · have := found_bad w c g L.length cap x _ _ rfl (foundR_tmod x _) b1 b2 b3 b4 hn hsm h2
    rw [show foundC c L x = (zsec, true) by simp only [foundC, if_neg h0, if_neg h1, if_pos h2]]
    exact this
  · have := found_torn w c g L.length cap x _ _ rfl (foundR_tmod x _) b1 b2 b3 b4 hn hsm (L.getD (L.length - 1) zsec) (if L.length > 1 then L.getD (L.length - 2) zsec else c.1) (by omega) (L.length - 1) (by omega)
      (loadS h _ (by omega)) (fun hh => by rw [if_pos hh]; exact loadS h (L.length - 1 - 1) (by omega)) (fun hh => by rw [if_neg (by omega)])
    rw [show foundC c L x = (tornS (L.getD (L.length - 1) zsec) (if L.length > 1 then L.getD (L.length - 2) zsec else c.1), false) by simp only [foundC, if_neg h0, if_neg h1, if_neg h2]]
    exact this
end Go.Proofs.Ytopeelclhpjngaa
