/- Filled and Same of ref22. -/
import Derived.Test.YtopeelclhpjngaaDiskJ
attribute [local go_sem ↓] Go.wp_at_zero Go.wp_at_succ
namespace Go.Proofs.Ytopeelclhpjngaa
set_option linter.unusedSimpArgs false
set_option linter.unusedVariables false
open Go Go.ChangeMaps Go.RowKit Go.Proofs

/-- A sector that is filled with a byte. -/
def filled (b : Int) : Sec := Vector.replicate 64 (b % 256)
theorem bcells_filled (b : Int) : bcells (filled b) = List.replicate 64 (.int .u8 (b % 256)) := by simp [filled, bcells, Vector.toList]

def FillAt (w : World) (r : Nat) (b : Int) (i : Value) (wr : World) : Prop :=
  ∃ n : Nat, i = .int .i64 n ∧ n ≤ 64 ∧ wr.heap[r]? = some (.cells (bcells zsec).toArray 33 (0, 0)) ∧
    wr.heap[r + 1]? = some (.cells (List.replicate n (Value.int .u8 (b % 256)) ++ List.replicate (64 - n) (Value.int .u8 0)).toArray 33 (0, 0)) ∧ Kp (fun _ => False) w wr

theorem fill_step (v : Value) (n : Nat) (hn : n < 64) : (List.replicate n v ++ List.replicate (64 - n) (Value.int .u8 0)).set n v = List.replicate (n + 1) v ++ List.replicate (64 - (n + 1)) (Value.int .u8 0) := by
  rw [List.set_append_right _ _ (by simp), List.length_replicate, Nat.sub_self]
  obtain ⟨m, hm⟩ : ∃ m, 64 - n = m + 1 := ⟨63 - n, by omega⟩
  rw [hm, List.replicate_succ, List.set_cons_zero, List.replicate_succ', List.append_assoc, show 64 - (n + 1) = m by omega]
  rfl

set_option maxRecDepth 100000 in
set_option maxHeartbeats 1000000 in
theorem filled_c (w : World) (b : Int) : Calls Try.prog 23 #[.int .i64 b] w fun e w' => e = .returned (bv (filled b)) ∧ Kp (fun _ => False) w w' := by
  go_enter Try.func23, Try.ntmps23
  go_wp2_with (first
    | ((with_reducible show wpList _ _ _ (Oper.mk _ (Op.alloc 33) _ _ _ _ :: _) _ _); refine wpList_allocA 33 rfl rfl (bcells zsec) zeroSec ?_))
  obtain ⟨r, hr⟩ : ∃ r, r = w.heap.size := ⟨_, rfl⟩
  have hRel : FillAt w r b (.int .i64 (0 : Nat)) ((w.alloc (.cells (bcells zsec).toArray 33)).alloc (.cells (bcells zsec).toArray 33)) := by
    refine ⟨0, rfl, by omega, ?_, ?_, ((Kp.refl _ _).alloc _).alloc _⟩
    · rw [hr]; exact (Below.heap_alloc _ _ _ (by simp)).trans (heap_alloc_new w _)
    · have := heap_alloc_new (w.alloc (.cells (bcells zsec).toArray 33)) (.cells (bcells zsec).toArray 33)
      rw [World.size_alloc, ← hr] at this
      rw [this]
      rfl
  have HRel := Lib.hid hRel
  have HR := Lib.hid hr
  try simp only [World.size_alloc]
  rw [← hr]
  clear hRel hr
  generalize (w.alloc (.cells (bcells zsec).toArray 33)).alloc (.cells (bcells zsec).toArray 33) = W at *
  go_loopw [4] (fun i wr => FillAt w r b i wr) (fun i _ => 64 - (intOf i).toNat)
  case atStart => exact HRel.out
  case round =>
    obtain ⟨n, rfl, hn, h0, h1, hK⟩ := hrel
    by_cases hlt : n < 64
    · have hcell : wr.cell? ⟨r + 1, n, none⟩ = some (.int .u8 0) := by
        rw [cell_of h1]
        simp [List.getElem?_append_right, List.getElem?_replicate, hlt]
        omega
      have hfr : wr.frozen? ⟨r + 1, n, none⟩ = false := free_of h1 _
      have hn0 : (0 : Int) ≤ (n : Int) := by omega
      have hn1 : (n : Int) < 64 := by omega
      have HX := Lib.hid (And.intro h0 (And.intro h1 (And.intro hK hlt)))
      have HWN : Hid (wrap64 ((n : Int) + 1) = (n : Int) + 1) := Lib.hid (IntWalk.wrap64_in _ (by omega))
      clear h0 h1 hK hn hlt
      go_wp2
      go_roundw
      case rel =>
        obtain ⟨h0, h1, hK, hlt⟩ := HX.out
        refine ⟨n + 1, by simp, by omega, ?_, ?_, hK.setCell (p := ⟨r + 1, n, none⟩) (fun h => absurd h (by rw [HR.out]; simp)) _⟩
        · exact (heap_setCell_ne (a := ⟨r + 1, n, none⟩) (by simp) _).trans h0
        · refine (heap_setCell_same h1 _).trans ?_
          rw [List.setIfInBounds_toArray, fill_step _ _ hlt]
      case measure => exact measure_next HX.out.2.2.2 _ _ rfl rfl
    · have hnn : n = 64 := by omega
      subst hnn
      have HX := Lib.hid (And.intro h0 (And.intro h1 hK))
      clear h0 h1 hK hn hlt
      have hfull : (List.replicate 64 (Value.int .u8 (b % 256)) ++ List.replicate (64 - 64) (Value.int .u8 0)) = bcells (filled b) := by rw [bcells_filled]; simp
      go_wp2_with (first
        | ((with_reducible show wpList _ _ _ (Oper.mk _ (Op.load 33 _) _ _ _ _ :: _) _ _); refine wpList_loadA 33 _ rfl _ rfl (r + 1) 0 (by rfl) (bcells (filled b)) (range_all (hfull ▸ HX.out.2.1)) Try.underlying33 rfl (lenSec _) ?_)
        | ((with_reducible show wpList _ _ _ (Oper.mk _ (Op.store 33 _ _) _ _ _ _ :: _) _ _); refine wpList_storeA 33 rfl _ _ rfl r 0 (bcells (filled b)) (by rfl) (by rfl) (there_all HX.out.1 (by simp)) (lenSec _) (bcells_one _) ?_))
      refine bodyPost_ret (results_cell1 rfl _ _ r 0 rfl (bv (filled b)) (run_loadVar_at Try.underlying33 rfl _ _ _ (bcells _) (lenSec _) ?_)) rfl ⟨rfl, ?_⟩
      · exact World.rangeAt_setCells_same _ _ _ _ (there_all HX.out.1 (by simp))
      · exact Kp.setCells (fun h => absurd h (by rw [HR.out]; omega)) _ _ _ HX.out.2.2

/-- What Same compares: a row, wherever it lies. -/
def Row (w : World) (v : Value) (xs : List Int) : Prop :=
  ∃ p c, v = .slice p xs.length c ∧ ∀ j x, xs[j]? = some x → ∃ g o, p = some ⟨g, o, none⟩ ∧ w.cell? ⟨g, o + j, none⟩ = some (.int .i64 x)

theorem Row.of_owns {w : World} {base : Nat} {T : TypeId} {v : Value} {xs : List Int} (h : w.ownsRow base T 1 v xs.length (xs.map (Value.int .i64))) : Row w v xs := by
  rcases h.2 with ⟨h1, h2⟩ | ⟨g, cap, cur, h1, h2, h3, h4, h5, h6, h7⟩
  · exact ⟨none, 0, by rw [h1, h2], fun j x hx => by have := List.eq_nil_of_length_eq_zero h2; subst this; simp at hx⟩
  · refine ⟨_, _, h1, fun j x hx => ⟨g, 0, rfl, ?_⟩⟩
    rw [cell_of (fr := (0, 0)) h3]
    have := congrArg (fun t => t[j]?) h7
    have hj := (List.getElem?_eq_some_iff.1 hx).1
    simp only [Nat.mul_one, List.getElem?_take, if_pos hj, List.getElem?_map, hx, Option.map_some] at this
    simpa using this

set_option maxRecDepth 100000 in
set_option maxHeartbeats 1000000 in
theorem same_c (w : World) (va vb : Value) (xs ys : List Int) (ha : Row w va xs) (hb : Row w vb ys) (hl : xs.length < 4611686018427387904) :
    Calls Try.prog 26 #[va, vb] w fun e w' => e = .returned (.bool (decide (xs = ys))) ∧ Kp (fun _ => False) w w' := by
  obtain ⟨p, c, rfl, ha⟩ := ha
  obtain ⟨q, d, rfl, hb⟩ := hb
  by_cases hne : xs.length = ys.length
  · rw [← hne]
    have HA := Lib.hid (And.intro ha (And.intro hb hne))
    have HL := Lib.hid hl
    clear ha hb hne hl
    go_enter Try.func26, Try.ntmps26
    go_wp2
    go_loopw [5] (fun i wr => ∃ n : Nat, i = .int .i64 n ∧ n ≤ xs.length ∧ xs.take n = ys.take n ∧ Kp (fun _ => False) w wr) (fun i _ => xs.length - (intOf i).toNat)
    case atStart => exact ⟨0, rfl, Nat.zero_le _, by simp, Kp.refl _ _⟩
    case round =>
      obtain ⟨n, rfl, hn, htk, hK⟩ := hrel
      by_cases hlt : n < xs.length
      · obtain ⟨x, hx⟩ : ∃ x, xs[n]? = some x := ⟨_, List.getElem?_eq_getElem hlt⟩
        obtain ⟨y, hy⟩ : ∃ y, ys[n]? = some y := ⟨_, List.getElem?_eq_getElem (HA.out.2.2 ▸ hlt)⟩
        obtain ⟨g, o, rfl, hcx⟩ := HA.out.1 n x hx
        obtain ⟨g2, o2, rfl, hcy⟩ := HA.out.2.1 n y hy
        have hcx' : wr.cell? ⟨g, o + n, none⟩ = some (.int .i64 x) := by
          have h1 := hK.block g (by simpa using World.block_lt_of_cell? _ _ hcx) (fun h => h)
          rw [← hcx]; simp only [World.cell?, h1]
        have hcy' : wr.cell? ⟨g2, o2 + n, none⟩ = some (.int .i64 y) := by
          have h1 := hK.block g2 (by simpa using World.block_lt_of_cell? _ _ hcy) (fun h => h)
          rw [← hcy]; simp only [World.cell?, h1]
        have hn0 : (0 : Int) ≤ (n : Int) := by omega
        have hn1 : (n : Int) < (xs.length : Int) := by omega
        have HX := Lib.hid (And.intro hx (And.intro hy (And.intro htk (And.intro hK hlt))))
        have HWN : Hid (wrap64 ((n : Int) + 1) = (n : Int) + 1) := Lib.hid (IntWalk.wrap64_in _ (by have := HL.out; omega))
        clear hx hy htk hK hlt hn hcx hcy
        by_cases hxy : x = y
        · have hb : (x == y) = true := by simpa using hxy
          have HXY := Lib.hid hxy
          clear hxy
          go_wp2
          go_region
          go_wp2
          go_roundw
          case rel =>
            rw [HWN.out]
            obtain ⟨hx, hy, htk, hK, hlt⟩ := HX.out
            refine ⟨n + 1, by simp, by omega, ?_, hK.drew⟩
            rw [List.take_add_one, List.take_add_one, hx, hy, htk, HXY.out]
          case measure => exact measure_next HX.out.2.2.2.2 _ _ (congrArg (Value.int .i64) HWN.out) rfl
        · have hb : (x == y) = false := by simpa using hxy
          have HXY := Lib.hid hxy
          clear hxy
          go_wp2
          go_region
          go_wp2
          go_ret
          obtain ⟨hx, hy, htk, hK, hlt⟩ := HX.out
          refine ⟨?_, hK.drew⟩
          have : ¬ xs = ys := fun e => HXY.out (by subst e; rw [hx] at hy; exact Option.some.inj hy)
          simp [this]
      · have HX := Lib.hid (And.intro hn (And.intro htk hK))
        have hlt' : ¬ ((n : Int) < (xs.length : Int)) := by omega
        have HLT := Lib.hid hlt
        clear hlt hn htk hK
        go_wp2
        go_ret
        obtain ⟨hn, htk, hK⟩ := HX.out
        have hlt := HLT.out
        have hnn : n = xs.length := by omega
        refine ⟨?_, hK⟩
        rw [hnn, List.take_length, HA.out.2.2, List.take_length] at htk
        simp [htk]
  · have hne' : ¬ xs = ys := fun e => hne (by rw [e])
    have hb' : ((xs.length : Int) == (ys.length : Int)) = false := by simp; omega
    go_enter Try.func26, Try.ntmps26
    go_wp2
    go_ret
    exact ⟨by simp [hne'], Kp.refl _ _⟩

end Go.Proofs.Ytopeelclhpjngaa
