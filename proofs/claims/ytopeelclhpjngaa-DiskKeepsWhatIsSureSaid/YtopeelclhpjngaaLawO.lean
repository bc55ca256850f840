/- 'possible': what a sector may be behind a failure. -/
import Derived.Test.YtopeelclhpjngaaLawK
attribute [local go_sem ↓] Go.wp_at_zero Go.wp_at_succ
namespace Go.Proofs.Ytopeelclhpjngaa
set_option linter.unusedSimpArgs false
set_option linter.unusedVariables false
open Go Go.ChangeMaps Go.RowKit Go.Proofs

theorem range_kp {w w' : World} (hk : Kp (fun _ => False) w w') {g o : Nat} {cs : List Value} (h : w.rangeAt g o cs) : w'.rangeAt g o cs := fun j v hv => by
  have := h j v hv
  rw [← this]
  have hlt := World.block_lt_of_cell? _ _ this
  have hb := hk.block _ hlt (fun h => h)
  simp only [World.cell?, hb]

set_option maxRecDepth 100000 in
set_option maxHeartbeats 1000000 in
theorem possible_rot (w : World) (sure : Sec) (v : Value) :
    Calls Try.prog 19 #[bv zsec, .int .i64 221, bv sure, v] w fun e w' => e = .returned (.bool true) ∧ Kp (fun _ => False) w w' := by
  go_enter Try.func19, Try.ntmps19
  go_wp2_with (first
    | ((with_reducible show wpList _ _ _ (Oper.mk _ (Op.box _ (Operand.tmp 0)) _ _ _ _ :: _) _ _); refine wpList_boxA 33 rfl _ rfl (bcells zsec) rfl ?_)
    | ((with_reducible show wpList _ _ _ (Oper.mk _ (Op.box _ (Operand.tmp 2)) _ _ _ _ :: _) _ _); refine wpList_boxA 33 rfl _ rfl (bcells sure) rfl ?_)
    | ((with_reducible show wpList _ _ _ (Oper.mk _ (Op.load 33 (Operand.tmp 4)) _ _ _ _ :: _) _ _); refine wpList_loadA 33 _ rfl _ rfl w.heap.size 0 (by rfl) (bcells zsec) (range_all ((Below.heap_alloc _ _ _ (by simp)).trans (heap_alloc_new w _))) Try.underlying33 rfl (lenSec _) ?_)
    | ((with_reducible show wpList _ _ _ (Oper.mk _ (Op.build _ _) _ _ _ _ :: _) _ _); refine wpList_buildA (av (bcells zsec)) 33 rfl _ rfl _ rfl (build0Sec _) ?_)
    | ((with_reducible show wpList _ _ _ (Oper.mk _ (Op.binOp BinOp.eql 33 _ _ _) _ _ _ _ :: _) _ _); refine eqB_same rfl _ _ rfl zsec (by rfl) (by rfl) ?_))
  go_ret
  exact ⟨rfl, ((Kp.refl _ w).alloc _).alloc _⟩

/-- The loop of 'possible' under way. -/
def PosAt (w2 : World) (s sure : Sec) (t : List Sec) (q i : Value) (w : World) : Prop :=
  ∃ (k : Nat) (b : Bool), i = .int .i64 k ∧ k ≤ t.length ∧ q = .bool b ∧ (b = true ↔ s = sure ∨ s ∈ t.take k) ∧ Kp (fun _ => False) w2 w
/-- Behind the two variables. -/
def TwoAt (w2 : World) (last bef : Sec) (p q : Value) (w : World) : Prop :=
  ∃ b9 b10 : Nat, p = .pointer (some ⟨b9, 0, none⟩) ∧ q = .pointer (some ⟨b10, 0, none⟩) ∧ w.heap[b9]? = some (oS last) ∧ w.heap[b10]? = some (oS bef) ∧ b9 ≠ b10 ∧ w2.heap.size ≤ b9 ∧ w2.heap.size ≤ b10 ∧ Kp (fun _ => False) w2 w

theorem two_end {w2 wr : World} (hK : Kp (fun _ => False) w2 wr) (last bef : Sec) (b9 b10 : Nat) (h : (b9 = wr.heap.size ∧ b10 = wr.heap.size + 1) ∨ (b9 = wr.heap.size + 1 ∧ b10 = wr.heap.size)) (W : World) (hW : W = (wr.drew.alloc (.cells (bcells zsec).toArray 33)).alloc (.cells (bcells zsec).toArray 33)) :
    W.there b9 0 (bcells last).length ∧ (W.setCells b9 0 (bcells last)).there b10 0 (bcells bef).length ∧
      TwoAt w2 last bef (.pointer (some ⟨b9, 0, none⟩)) (.pointer (some ⟨b10, 0, none⟩)) ((W.setCells b9 0 (bcells last)).setCells b10 0 (bcells bef)) ∧
      (∀ g o cs, wr.rangeAt g o cs → W.rangeAt g o cs ∧ (W.setCells b9 0 (bcells last)).rangeAt g o cs ∧ ((W.setCells b9 0 (bcells last)).setCells b10 0 (bcells bef)).rangeAt g o cs) := by
  have a1 : W.heap[wr.heap.size]? = some (.cells (bcells zsec).toArray 33 (0, 0)) := by rw [hW]; exact (Below.heap_alloc _ _ _ (by simp)).trans (heap_alloc_new wr.drew _)
  have a2 : W.heap[wr.heap.size + 1]? = some (.cells (bcells zsec).toArray 33 (0, 0)) := by
    have := heap_alloc_new (wr.drew.alloc (.cells (bcells zsec).toArray 33)) (.cells (bcells zsec).toArray 33)
    rw [World.size_alloc] at this
    rw [hW]; exact this
  have h9 : W.heap[b9]? = some (.cells (bcells zsec).toArray 33 (0, 0)) := by rcases h with h | h <;> (rw [h.1]; assumption)
  have h10 : W.heap[b10]? = some (.cells (bcells zsec).toArray 33 (0, 0)) := by rcases h with h | h <;> (rw [h.2]; assumption)
  have hne : b9 ≠ b10 := by omega
  have hz := hK.size
  have k0 : Kp (fun _ => False) wr W := by rw [hW]; exact (((Kp.refl _ wr).drew).alloc _).alloc _
  have k1 : Kp (fun _ => False) wr (W.setCells b9 0 (bcells last)) := Kp.setCells (fun h => absurd h (by omega)) _ _ _ k0
  have k2 : Kp (fun _ => False) wr ((W.setCells b9 0 (bcells last)).setCells b10 0 (bcells bef)) := Kp.setCells (fun h => absurd h (by omega)) _ _ _ k1
  have g10 : (W.setCells b9 0 (bcells last)).heap[b10]? = some (.cells (bcells zsec).toArray 33 (0, 0)) := (heap_setCells_ne (Ne.symm hne) _ _ _).trans h10
  refine ⟨there_all h9 (by simp), there_all g10 (by simp), ⟨b9, b10, rfl, rfl, ?_, heap_fill g10 (by simp), hne, by omega, by omega, hK.trans k2 (fun _ _ h => h)⟩, fun g o cs hr => ⟨range_kp k0 hr, range_kp k1 hr, range_kp k2 hr⟩⟩
  exact (heap_setCells_ne hne _ _ _).trans (heap_fill h9 (by simp))

set_option maxRecDepth 100000 in
set_option maxHeartbeats 8000000 in
theorem possible_ok (w : World) (s sure : Sec) (g cap : Nat) (t : List Sec) (hrow : ∀ j u, t[j]? = some u → w.rangeAt g (j * 64) (bcells u)) (hne : 0 < t.length) (hsm : t.length < 1000)
    (h : s = sure ∨ s ∈ t ∨ s = tornS (t.getLastD zsec) (if 1 < t.length then t.getD (t.length - 2) zsec else sure)) :
    Calls Try.prog 19 #[bv s, .int .i64 0, bv sure, .slice (some ⟨g, 0, none⟩) t.length cap] w fun e w' => e = .returned (.bool true) ∧ Kp (fun _ => False) w w' := by
  have HX := Lib.hid (And.intro hrow (And.intro hne (And.intro hsm h)))
  obtain ⟨b0, hb0⟩ : ∃ b0, decide (s = sure) = b0 := ⟨_, rfl⟩
  have HB0 := Lib.hid hb0
  clear hrow hne hsm h hb0
  go_enter Try.func19, Try.ntmps19
  go_wp2_with (first
    | ((with_reducible show wpList _ _ _ (Oper.mk _ _ _ _ _ (some _) :: _) _ _); refine wpList_guarded (by rfl) ?_)
    | ((with_reducible show wpList _ _ _ (Oper.mk _ (Op.box _ (Operand.tmp 0)) _ _ _ _ :: _) _ _); refine wpList_boxA 33 rfl _ rfl (bcells s) rfl ?_)
    | ((with_reducible show wpList _ _ _ (Oper.mk _ (Op.box _ (Operand.tmp 2)) _ _ _ _ :: _) _ _); refine wpList_boxA 33 rfl _ rfl (bcells sure) rfl ?_; have H2 : Hid (((w.alloc (.cells (bcells s).toArray 33)).alloc (.cells (bcells sure).toArray 33)).heap[w.heap.size]? = some (oS s) ∧ ((w.alloc (.cells (bcells s).toArray 33)).alloc (.cells (bcells sure).toArray 33)).heap[w.heap.size + 1]? = some (oS sure) ∧ Kp (fun _ => False) w ((w.alloc (.cells (bcells s).toArray 33)).alloc (.cells (bcells sure).toArray 33))) := Lib.hid ⟨(Below.heap_alloc _ _ _ (by simp)).trans (heap_alloc_new w _), (by have := heap_alloc_new (w.alloc (.cells (bcells s).toArray 33)) (.cells (bcells sure).toArray 33); rwa [World.size_alloc] at this), ((Kp.refl _ w).alloc _).alloc _⟩; generalize hw2 : (w.alloc (.cells (bcells s).toArray 33)).alloc (.cells (bcells sure).toArray 33) = w2 at *; clear hw2)
    | ((with_reducible show wpList _ _ _ (Oper.mk _ (Op.load 33 (Operand.tmp 4)) _ _ _ _ :: _) _ _); refine wpList_loadA 33 _ rfl _ rfl w.heap.size 0 (by rfl) (bcells s) (range_all H2.out.1) Try.underlying33 rfl (lenSec _) ?_)
    | ((with_reducible show wpList _ _ _ (Oper.mk _ (Op.load 33 (Operand.tmp 6)) _ _ _ _ :: _) _ _); refine wpList_loadA 33 _ rfl _ rfl (w.heap.size + 1) 0 (by rfl) (bcells sure) (range_all H2.out.2.1) Try.underlying33 rfl (lenSec _) ?_)
    | ((with_reducible show wpList _ _ _ (Oper.mk _ (Op.binOp BinOp.eql 33 _ _ _) _ _ _ _ :: _) _ _); refine wpList_eqB Try.underlying33 Try.underlying5 (by kernel_rfl) (by kernel_rfl) rfl _ _ rfl s sure (by rfl) (by rfl) ?_; rw [HB0.out]))
  have hlen0 : (0 : Int) < (t.length : Int) := by have := HX.out.2.1; omega
  have hlen1 : (t.length : Int) < 1000 := by have := HX.out.2.2.1; omega
  go_loopw [9, 29] (fun q i wr => PosAt w2 s sure t q i wr) (fun _ i _ => t.length - (intOf i).toNat)
  case atStart => exact ⟨0, b0, rfl, Nat.zero_le _, rfl, by rw [← HB0.out]; simp, Kp.refl _ _⟩
  case round =>
    obtain ⟨k, q, rfl, hk, rfl, hq, hK⟩ := hrel
    by_cases hlt : k < t.length
    · obtain ⟨u, hu⟩ : ∃ u, t[k]? = some u := ⟨_, List.getElem?_eq_getElem hlt⟩
      have hr := range_kp (H2.out.2.2.trans hK (fun _ _ h => h)) (HX.out.1 k u hu)
      have htk : t.take (k + 1) = t.take k ++ [u] := by rw [List.take_add_one, hu]; rfl
      have hk0 : (0 : Int) ≤ (k : Int) := by omega
      have hk1 : (k : Int) < (t.length : Int) := by omega
      cases q with
      | true =>
        have HZ := Lib.hid (And.intro hK (And.intro hlt (And.intro hr (show s = sure ∨ s ∈ t.take (k + 1) by rw [htk]; rcases hq.1 rfl with h | h <;> simp [h]))))
        clear hK hlt hr hq htk hk hu
        go_wp2_with (first
          | ((with_reducible show wpList _ _ _ (Oper.mk _ (Op.load 33 (Operand.tmp 31)) _ _ _ _ :: _) _ _); refine wpList_loadA 33 _ rfl _ rfl g (k * 64) (by rfl) (bcells u) HZ.out.2.2.1 Try.underlying33 rfl (lenSec _) ?_)
          | ((with_reducible show wpList _ _ _ (Oper.mk _ (Op.alloc 33) _ _ _ _ :: _) _ _); refine wpList_allocA 33 rfl rfl (bcells zsec) zeroSec ?_)
          | ((with_reducible show wpList _ _ _ (Oper.mk _ (Op.store 33 (Operand.tmp 11) _) _ _ _ _ :: _) _ _); refine wpList_storeA 33 rfl _ _ rfl wr.heap.size 0 (bcells u) (by rfl) (by rfl) (th_fresh wr _) (lenSec _) (bcells_one _) ?_; have HA := Lib.hid (HZ.out.1.trans (kp_fresh wr (bcells zsec) (bcells u) 33) (fun _ _ h => h)); generalize hwa : (wr.alloc (.cells (bcells zsec).toArray 33)).setCells wr.heap.size 0 (bcells u) = wa at *; clear hwa))
        go_roundw
        case rel => exact ⟨k + 1, true, by simp, HZ.out.2.1, rfl, ⟨fun _ => HZ.out.2.2.2, fun _ => rfl⟩, HA.out⟩
        case measure => exact measure_next HZ.out.2.1 _ _ rfl rfl
      | false =>
        obtain ⟨b1, hb1⟩ : ∃ b1, decide (s = u) = b1 := ⟨_, rfl⟩
        have hiff : b1 = true ↔ s = sure ∨ s ∈ t.take (k + 1) := by
          have hno : ¬ (s = sure ∨ s ∈ t.take k) := fun h => by simpa using hq.2 h
          rw [htk, ← hb1]
          simp only [decide_eq_true_eq, List.mem_append, List.mem_singleton]
          constructor
          · intro h; exact .inr (.inr h)
          · rintro (h | h | h)
            · exact absurd (.inl h) hno
            · exact absurd (.inr h) hno
            · exact h
        have HZ := Lib.hid (And.intro hK (And.intro hlt (And.intro hr (And.intro hb1 hiff))))
        clear hK hlt hr hq htk hk hu hb1 hiff
        go_wp2_with (first
          | ((with_reducible show wpList _ _ _ (Oper.mk _ _ _ _ _ (some _) :: _) _ _); refine wpList_guarded (by rfl) ?_)
          | ((with_reducible show wpList _ _ _ (Oper.mk _ (Op.load 33 (Operand.tmp 31)) _ _ _ _ :: _) _ _); refine wpList_loadA 33 _ rfl _ rfl g (k * 64) (by rfl) (bcells u) HZ.out.2.2.1 Try.underlying33 rfl (lenSec _) ?_)
          | ((with_reducible show wpList _ _ _ (Oper.mk _ (Op.alloc 33) _ _ _ _ :: _) _ _); refine wpList_allocA 33 rfl rfl (bcells zsec) zeroSec ?_)
          | ((with_reducible show wpList _ _ _ (Oper.mk _ (Op.store 33 (Operand.tmp 11) _) _ _ _ _ :: _) _ _); refine wpList_storeA 33 rfl _ _ rfl wr.heap.size 0 (bcells u) (by rfl) (by rfl) (th_fresh wr _) (lenSec _) (bcells_one _) ?_; have HA := Lib.hid (And.intro (HZ.out.1.trans (kp_fresh wr (bcells zsec) (bcells u) 33) (fun _ _ h => h)) (heap_fresh wr (bcells zsec) (bcells u) 33 (by simp))); generalize hwa : (wr.alloc (.cells (bcells zsec).toArray 33)).setCells wr.heap.size 0 (bcells u) = wa at *; clear hwa)
          | ((with_reducible show wpList _ _ _ (Oper.mk _ (Op.load 33 (Operand.tmp 4)) _ _ _ _ :: _) _ _); (with_reducible show wpList _ _ _ _ _ wa); refine wpList_loadA 33 _ rfl _ rfl w.heap.size 0 (by rfl) (bcells s) (range_all (HA.out.1.heap H2.out.1 (fun h => h))) Try.underlying33 rfl (lenSec _) ?_)
          | ((with_reducible show wpList _ _ _ (Oper.mk _ (Op.load 33 (Operand.tmp 11)) _ _ _ _ :: _) _ _); (with_reducible show wpList _ _ _ _ _ wa); refine wpList_loadA 33 _ rfl _ rfl wr.heap.size 0 (by rfl) (bcells u) (range_all HA.out.2) Try.underlying33 rfl (lenSec _) ?_)
          | ((with_reducible show wpList _ _ _ (Oper.mk _ (Op.binOp BinOp.eql 33 _ _ _) _ _ _ _ :: _) _ _); refine wpList_eqB Try.underlying33 Try.underlying5 (by kernel_rfl) (by kernel_rfl) rfl _ _ rfl s u (by rfl) (by rfl) ?_; rw [HZ.out.2.2.2.1]))
        go_roundw
        case rel => exact ⟨k + 1, b1, by simp, HZ.out.2.1, rfl, HZ.out.2.2.2.2, HA.out.1⟩
        case measure => exact measure_next HZ.out.2.1 _ _ rfl rfl
    · have hkt : k = t.length := by omega
      subst hkt
      rw [List.take_length] at hq
      obtain ⟨n, hn⟩ : ∃ n, t.length = n + 1 := ⟨t.length - 1, by have := HX.out.2.1; omega⟩
      obtain ⟨last, hlast⟩ : ∃ last, t[n]? = some last := ⟨_, List.getElem?_eq_getElem (by omega)⟩
      have hgl : t.getLastD zsec = last := by rw [List.getLastD_eq_getLast?, List.getLast?_eq_getElem?, hn, Nat.add_sub_cancel, hlast]; rfl
      have hKw := H2.out.2.2.trans hK (fun _ _ h => h)
      have hr := range_kp hKw (HX.out.1 n last hlast)
      have hsr : wr.rangeAt (w.heap.size + 1) 0 (bcells sure) := range_all (hK.heap H2.out.2.1 (fun h => h))
      have HZ := Lib.hid (And.intro hK (And.intro hq (And.intro hn hgl)))
      have HL := Lib.hid (And.intro hr hsr)
      have hn0 : (0 : Int) ≤ (n : Int) := by omega
      have hn1 : (n : Int) < (t.length : Int) := by omega
      have hn2 : (t.length : Int) - 1 = (n : Int) := by omega
      have hn3 : IntKind.i64.wrap ((t.length : Int) - 1) = (n : Int) := by rw [IntWalk.i64_in _ (by omega)]; omega
      have hn4 : wrap64 ((t.length : Int) - 1) = (n : Int) := by rw [IntWalk.wrap64_in _ (by omega)]; omega
      have hn5 : IntKind.i64.wrap (n : Int) = (n : Int) := IntWalk.i64_in _ (by omega)
      clear hK hq hn hlast hgl hKw hr hsr hk hlt
      go_upto_region 10 with (fail)
      go_cut [13, 14] from 46 to 51 (fun p q wx => TwoAt w2 last sure p q wx)
      case first =>
        have hS0 : wr.drew.rangeAt g (n * 64) (bcells last) ∧ wr.drew.rangeAt (w.heap.size + 1) 0 (bcells sure) := HL.out
        have hu := Try.underlying33
        refine wp_region_held (S := fun w' => w'.rangeAt g (n * 64) (bcells last) ∧ w'.rangeAt (w.heap.size + 1) 0 (bcells sure)) (by kernel_rfl) ?_
        change wpAnyH _ _ _ _ _ _ _ _ wr.drew
        refine wpAnyH_take (i := 0) (v := .slice (some ⟨g, 0, none⟩) t.length cap) rfl (by kernel_rfl) (by kernel_rfl) (by kernel_rfl) (fun _ _ _ h => h) (Or.inl ⟨by rfl, fun w' hS => ?_⟩) hS0 ?_
        · go_simp
        simp only [Act.put, List.getElem_toArray, List.getElem_cons_zero, List.getElem_cons_succ, List.setIfInBounds_toArray, List.set_cons_zero, List.set_cons_succ]
        refine wpAnyH_take (i := 1) (v := .int .i64 t.length) rfl (by kernel_rfl) (by kernel_rfl) (by kernel_rfl) (fun _ _ _ h => h) (Or.inl ⟨by rfl, fun w' hS => ?_⟩) hS0 ?_
        · go_simp
        simp only [Act.put, List.getElem_toArray, List.getElem_cons_zero, List.getElem_cons_succ, List.setIfInBounds_toArray, List.set_cons_zero, List.set_cons_succ]
        refine wpAnyH_take (i := 2) (v := .int .i64 n) rfl (by kernel_rfl) (by kernel_rfl) (by kernel_rfl) (fun _ _ _ h => h) (Or.inl ⟨by rfl, fun w' hS => ?_⟩) hS0 ?_
        · go_simp
        simp only [Act.put, List.getElem_toArray, List.getElem_cons_zero, List.getElem_cons_succ, List.setIfInBounds_toArray, List.set_cons_zero, List.set_cons_succ]
        refine wpAnyH_take (i := 3) (v := .pointer (some ⟨g, n * 64, none⟩)) rfl (by kernel_rfl) (by kernel_rfl) (by kernel_rfl) (fun _ _ _ h => h) (Or.inl ⟨by rfl, fun w' hS => ?_⟩) hS0 ?_
        · go_simp
        simp only [Act.put, List.getElem_toArray, List.getElem_cons_zero, List.getElem_cons_succ, List.setIfInBounds_toArray, List.set_cons_zero, List.set_cons_succ]
        refine wpAnyH_take (i := 4) (v := .agg (bcells last).toArray) rfl (by kernel_rfl) (by kernel_rfl) (by kernel_rfl) (fun _ _ _ h => h) (yieldsIf_load_mid (by rfl) _ _ rfl g (n * 64) (by rfl) (bcells last) _ (fun w' hS => hS.1) hu rfl (lenSec last)) hS0 ?_
        simp only [Act.put, List.getElem_toArray, List.getElem_cons_zero, List.getElem_cons_succ, List.setIfInBounds_toArray, List.set_cons_zero, List.set_cons_succ]
        refine wpAnyH_take (i := 5) (v := .agg (bcells sure).toArray) rfl (by kernel_rfl) (by kernel_rfl) (by kernel_rfl) (fun _ _ _ h => h) (yieldsIf_load_mid (by rfl) _ _ rfl (w.heap.size + 1) (0) (by rfl) (bcells sure) _ (fun w' hS => hS.2) hu rfl (lenSec sure)) hS0 ?_
        simp only [Act.put, List.getElem_toArray, List.getElem_cons_zero, List.getElem_cons_succ, List.setIfInBounds_toArray, List.set_cons_zero, List.set_cons_succ]
        refine anyH_two (i := 6) (j := 7) (by kernel_rfl) ?_ ?_
        · refine wpOp_allocA 33 (bcells zsec) rfl rfl rfl zeroSec ⟨⟨World.rangeAt_alloc hS0.1 _, World.rangeAt_alloc hS0.2 _⟩, ?_⟩
          simp only [Act.put, List.getElem_toArray, List.getElem_cons_zero, List.getElem_cons_succ, List.setIfInBounds_toArray, List.set_cons_zero, List.set_cons_succ]
          refine anyH_one (i := 7) (by kernel_rfl) ?_
          refine wpOp_allocA 33 (bcells zsec) rfl rfl rfl zeroSec ⟨⟨World.rangeAt_alloc (World.rangeAt_alloc hS0.1 _) _, World.rangeAt_alloc (World.rangeAt_alloc hS0.2 _) _⟩, ?_⟩
          simp only [Act.put, List.getElem_toArray, List.getElem_cons_zero, List.getElem_cons_succ, List.setIfInBounds_toArray, List.set_cons_zero, List.set_cons_succ]
          obtain ⟨W, hW⟩ : ∃ W, W = (wr.drew.alloc (.cells (bcells zsec).toArray 33)).alloc (.cells (bcells zsec).toArray 33) := ⟨_, rfl⟩
          have HE := Lib.hid (two_end HZ.out.1 last sure (wr.heap.size) (wr.heap.size + 1) (.inl ⟨rfl, rfl⟩) W hW)
          try simp only [World.size_alloc, World.size_drew]
          rw [← hW]
          clear hW
          refine anyH_one (i := 8) (by kernel_rfl) ?_
          refine wpOp_storeA 33 _ _ (wr.heap.size) 0 (bcells last) rfl rfl rfl (by rfl) (by rfl) HE.out.1 (lenSec _) (bcells_one _) ⟨⟨(HE.out.2.2.2 _ _ _ hS0.1).2.1, (HE.out.2.2.2 _ _ _ hS0.2).2.1⟩, ?_⟩
          simp only [Act.put, List.getElem_toArray, List.getElem_cons_zero, List.getElem_cons_succ, List.setIfInBounds_toArray, List.set_cons_zero, List.set_cons_succ]
          refine anyH_one (i := 9) (by kernel_rfl) ?_
          refine wpOp_storeA 33 _ _ (wr.heap.size + 1) 0 (bcells sure) rfl rfl rfl (by rfl) (by rfl) HE.out.2.1 (lenSec _) (bcells_one _) ⟨⟨(HE.out.2.2.2 _ _ _ hS0.1).2.2, (HE.out.2.2.2 _ _ _ hS0.2).2.2⟩, ?_⟩
          simp only [Act.put, List.getElem_toArray, List.getElem_cons_zero, List.getElem_cons_succ, List.setIfInBounds_toArray, List.set_cons_zero, List.set_cons_succ]
          refine wpAnyH_done (by kernel_rfl) ?_ _
          have HF := Lib.hid HE.out.2.2.1
          clear HE
          generalize (W.setCells (wr.heap.size) 0 (bcells last)).setCells (wr.heap.size + 1) 0 (bcells sure) = wf at *
          go_wp2_with fail
          go_meet
          case rel => exact HF.out
        · refine wpOp_allocA 33 (bcells zsec) rfl rfl rfl zeroSec ⟨⟨World.rangeAt_alloc hS0.1 _, World.rangeAt_alloc hS0.2 _⟩, ?_⟩
          simp only [Act.put, List.getElem_toArray, List.getElem_cons_zero, List.getElem_cons_succ, List.setIfInBounds_toArray, List.set_cons_zero, List.set_cons_succ]
          refine anyH_one (i := 6) (by kernel_rfl) ?_
          refine wpOp_allocA 33 (bcells zsec) rfl rfl rfl zeroSec ⟨⟨World.rangeAt_alloc (World.rangeAt_alloc hS0.1 _) _, World.rangeAt_alloc (World.rangeAt_alloc hS0.2 _) _⟩, ?_⟩
          simp only [Act.put, List.getElem_toArray, List.getElem_cons_zero, List.getElem_cons_succ, List.setIfInBounds_toArray, List.set_cons_zero, List.set_cons_succ]
          obtain ⟨W, hW⟩ : ∃ W, W = (wr.drew.alloc (.cells (bcells zsec).toArray 33)).alloc (.cells (bcells zsec).toArray 33) := ⟨_, rfl⟩
          have HE := Lib.hid (two_end HZ.out.1 last sure (wr.heap.size + 1) (wr.heap.size) (.inr ⟨rfl, rfl⟩) W hW)
          try simp only [World.size_alloc, World.size_drew]
          rw [← hW]
          clear hW
          refine anyH_one (i := 8) (by kernel_rfl) ?_
          refine wpOp_storeA 33 _ _ (wr.heap.size + 1) 0 (bcells last) rfl rfl rfl (by rfl) (by rfl) HE.out.1 (lenSec _) (bcells_one _) ⟨⟨(HE.out.2.2.2 _ _ _ hS0.1).2.1, (HE.out.2.2.2 _ _ _ hS0.2).2.1⟩, ?_⟩
          simp only [Act.put, List.getElem_toArray, List.getElem_cons_zero, List.getElem_cons_succ, List.setIfInBounds_toArray, List.set_cons_zero, List.set_cons_succ]
          refine anyH_one (i := 9) (by kernel_rfl) ?_
          refine wpOp_storeA 33 _ _ (wr.heap.size) 0 (bcells sure) rfl rfl rfl (by rfl) (by rfl) HE.out.2.1 (lenSec _) (bcells_one _) ⟨⟨(HE.out.2.2.2 _ _ _ hS0.1).2.2, (HE.out.2.2.2 _ _ _ hS0.2).2.2⟩, ?_⟩
          simp only [Act.put, List.getElem_toArray, List.getElem_cons_zero, List.getElem_cons_succ, List.setIfInBounds_toArray, List.set_cons_zero, List.set_cons_succ]
          refine wpAnyH_done (by kernel_rfl) ?_ _
          have HF := Lib.hid HE.out.2.2.1
          clear HE
          generalize (W.setCells (wr.heap.size + 1) 0 (bcells last)).setCells (wr.heap.size) 0 (bcells sure) = wf at *
          go_wp2_with fail
          go_meet
          case rel => exact HF.out
      case rest =>
        obtain ⟨b9, b10, rfl, rfl, h9, h10, hne, hb9, hb10, hK⟩ := hcut
        obtain ⟨bef, hbef⟩ : ∃ bef, (if 1 < t.length then t.getD (t.length - 2) zsec else sure) = bef := ⟨_, rfl⟩
        have HB := Lib.hid (And.intro h9 (And.intro h10 (And.intro hne (And.intro hb9 (And.intro hb10 (And.intro hK hbef))))))
        clear h9 h10 hne hb9 hb10 hK hbef HL
        go_upto_if 53 with (fail)
        go_cut [] from 54 to 58 (fun wx => wx.heap[b9]? = some (oS last) ∧ wx.heap[b10]? = some (oS bef) ∧ Kp (fun _ => False) w2 wx)
        case first =>
          by_cases h1 : 1 < t.length
          · have hb := HB.out.2.2.2.2.2.2
            rw [if_pos h1] at hb
            obtain ⟨k2, hk2⟩ : ∃ k2, t.length = k2 + 2 := ⟨t.length - 2, by omega⟩
            have hget : t[k2]? = some bef := by
              have hlt : k2 < t.length := by omega
              rw [List.getD_eq_getElem?_getD, hk2, Nat.add_sub_cancel, List.getElem?_eq_getElem hlt] at hb
              rw [List.getElem?_eq_getElem hlt]
              exact congrArg some hb
            have hr := range_kp (H2.out.2.2.trans HB.out.2.2.2.2.2.1 (fun _ _ h => h)) (HX.out.1 k2 bef hget)
            have h1' : (1 : Int) < (t.length : Int) := by omega
            have hq1 : (t.length : Int) - 2 = (k2 : Int) := by omega
            have hq4 : IntKind.i64.wrap ((t.length : Int) - 2) = (k2 : Int) := by rw [IntWalk.i64_in _ (by omega)]; omega
            have hq5 : wrap64 ((t.length : Int) - 2) = (k2 : Int) := by rw [IntWalk.wrap64_in _ (by omega)]; omega
            have hq6 : wrap64 (k2 : Int) = (k2 : Int) := by rw [IntWalk.wrap64_in _ (by omega)]
            have hq2 : (0 : Int) ≤ (k2 : Int) := by omega
            have hq3 : (k2 : Int) < (t.length : Int) := by omega
            have HR := Lib.hid hr
            clear hr hget hk2 hb h1 hn0 hn1 hn2 hn3 hn4 hn5
            go_wp2_with (first
              | ((with_reducible show wpList _ _ _ (Oper.mk _ (Op.load 33 (Operand.tmp 57)) _ _ _ _ :: _) _ _); refine wpList_loadA 33 _ rfl _ rfl g (k2 * 64) (by simp [Act.eval]) (bcells bef) HR.out Try.underlying33 rfl (lenSec _) ?_)
              | ((with_reducible show wpList _ _ _ (Oper.mk _ (Op.store 33 (Operand.tmp 14) _) _ _ _ _ :: _) _ _); refine wpList_storeA 33 rfl _ _ rfl b10 0 (bcells bef) (by rfl) (by rfl) (there_all HB.out.2.1 (by simp)) (lenSec _) (bcells_one _) ?_; have HE := Lib.hid (And.intro ((heap_setCells_ne HB.out.2.2.1 (bcells bef) 0 wc).trans HB.out.1) (And.intro (heap_fill HB.out.2.1 (vs := bcells bef) (by simp)) (Kp.setCells (F := fun _ => False) (a := w2) (b := b10) (fun h => absurd h (by have := HB.out.2.2.2.2.1; omega)) (bcells bef) 0 wc HB.out.2.2.2.2.2.1))); generalize wc.setCells b10 0 (bcells bef) = wd at *))
            go_meet
            case rel => exact HE.out
          · have hb := HB.out.2.2.2.2.2.2
            rw [if_neg h1] at hb
            have h1' : ¬ (1 : Int) < (t.length : Int) := by omega
            have HE := Lib.hid (And.intro HB.out.1 (And.intro (hb ▸ HB.out.2.1) HB.out.2.2.2.2.2.1))
            clear hb h1
            go_wp2
            go_meet
            case rel => exact HE.out
        case rest =>
          obtain ⟨h9, h10, hK⟩ := hcut
          have HC := Lib.hid (And.intro h9 (And.intro h10 hK))
          clear h9 h10 hK
          go_wp2
          refine wp_region_still_tail 2 (by kernel_rfl) (by kernel_rfl) ?_
          simp only [List.take_succ_cons, List.take_zero, List.drop_succ_cons, List.drop_zero]
          change wpStill _ _ wc.drew _ _ _
          repeat still_step
          refine wpStill_nil ?_
          change wpList _ _ _ _ _ wc.drew
          have hcp := fun ty => run_copy_cells (P := Try.prog) wc.drew 67 67 ty 5 b9 32 32 32 ⟨b10, 32, none⟩ 32 32 ((bcells bef).drop 32) Try.underlying67 (by kernel_rfl) (by simp)
            (fun j v hv => by
              rw [Addr.add_mid]
              have := range_all HC.out.2.1 (32 + j) v (by rw [List.getElem?_drop] at hv; exact hv)
              simpa using this)
            (fun j hj => by have := (there_all (n := 64) HC.out.1 (by simp) (32 + j) (by simp at hj; omega)).1; simpa using this)
            (fun j hj => by have := (there_all (n := 64) HC.out.1 (by simp) (32 + j) (by simp at hj; omega)).2; simpa using this)
            (fun v hv => bcells_one bef v (List.mem_of_mem_drop hv))
          have f9 : (wc.drew.setCells b9 32 ((bcells bef).drop 32)).heap[b9]? = some (oS (tornS last bef)) := by
            rw [heap_setCells_same _ 32 wc.drew (bcells last) HC.out.1 (by simp), oS, bcells_torn]
          have fK : Kp (fun _ => False) w2 (wc.drew.setCells b9 32 ((bcells bef).drop 32)) := Kp.setCells (fun h => absurd h (by have := HB.out.2.2.2.1; omega)) _ _ _ HC.out.2.2.drew
          have HD := Lib.hid (And.intro f9 (And.intro (fK.heap H2.out.1 (fun h => h)) (H2.out.2.2.trans fK (fun _ _ h => h))))
          clear f9 fK
          cases q with
          | true =>
            go_wp2
            go_ret
            exact ⟨rfl, HD.out.2.2⟩
          | false =>
            have hd : decide (s = tornS last bef) = true := by
              have hno : ¬ (s = sure ∨ s ∈ t) := fun h => by simpa using HZ.out.2.1.2 h
              have h := HX.out.2.2.2
              rw [HZ.out.2.2.2, HB.out.2.2.2.2.2.2] at h
              rcases h with h | h | h
              · exact absurd (.inl h) hno
              · exact absurd (.inr h) hno
              · simpa using h
            have HDD := Lib.hid hd
            clear hd
            go_wp2_with (first
              | ((with_reducible show wpList _ _ _ (Oper.mk _ _ _ _ _ (some _) :: _) _ _); refine wpList_guarded (by rfl) ?_)
              | ((with_reducible show wpList _ _ _ (Oper.mk _ (Op.load 33 (Operand.tmp 4)) _ _ _ _ :: _) _ _); refine wpList_loadA 33 _ rfl _ rfl w.heap.size 0 (by rfl) (bcells s) (range_all HD.out.2.1) Try.underlying33 rfl (lenSec _) ?_)
              | ((with_reducible show wpList _ _ _ (Oper.mk _ (Op.load 33 (Operand.tmp 13)) _ _ _ _ :: _) _ _); refine wpList_loadA 33 _ rfl _ rfl b9 0 (by rfl) (bcells (tornS last bef)) (range_all HD.out.1) Try.underlying33 rfl (lenSec _) ?_)
              | ((with_reducible show wpList _ _ _ (Oper.mk _ (Op.binOp BinOp.eql 33 _ _ _) _ _ _ _ :: _) _ _); refine wpList_eqB Try.underlying33 Try.underlying5 (by kernel_rfl) (by kernel_rfl) rfl _ _ rfl s (tornS last bef) (by rfl) (by rfl) ?_; rw [HDD.out]))
            go_ret
            exact ⟨rfl, HD.out.2.2⟩

end Go.Proofs.Ytopeelclhpjngaa
