/- The contracts of slices.Repeat (for one number) and of Open. -/
import Derived.Test.YtopeelclhpjngaaDiskI
attribute [local go_sem ↓] Go.wp_at_zero Go.wp_at_succ
namespace Go.Proofs.Ytopeelclhpjngaa
set_option linter.unusedSimpArgs false
set_option linter.unusedVariables false
open Go Go.ChangeMaps Go.RowKit Go.Proofs

theorem owns_kept {w w' : World} {base size n : Nat} {e : TypeId} {v : Value} {xs : List Value} (h : w.ownsRow base e size v n xs) (hk : Kp (fun _ => False) w w') : w'.ownsRow base e size v n xs :=
  h.kept (row := none) ⟨hk.os, hk.tape, hk.output, hk.size, fun k hk' _ => hk.block k hk' (fun h => h)⟩ (by cases v.ownBlock <;> simp)

theorem owns_mono {w : World} {base base' size n : Nat} {e : TypeId} {v : Value} {xs : List Value} (h : w.ownsRow base e size v n xs) (hb : base' ≤ base) : w.ownsRow base' e size v n xs :=
  ⟨h.1, h.2.imp id (fun ⟨g, cap, cur, h1, h2, r⟩ => ⟨g, cap, cur, h1, Nat.le_trans hb h2, r⟩)⟩

/-- The loop of Repeat under way: 'm' of 'n' are there. -/
def RepAt (w : World) (g : Nat) (i : Int) (n : Nat) (v : Value) (wr : World) : Prop :=
  ∃ m : Nat, v = .int .i64 m ∧ 1 ≤ m ∧ m ≤ n ∧ wr.heap[g]? = some (.cells (List.replicate m (Value.int .i64 i) ++ List.replicate (n - m) (Value.int .i64 0)).toArray 3 (0, 0)) ∧ Kp (fun _ => False) w wr

theorem rep_step (i : Int) (n m c : Nat) (hc : c = min m (n - m)) (hm : m ≤ n) :
    over (List.replicate m (Value.int .i64 i) ++ List.replicate (n - m) (Value.int .i64 0)) m (List.replicate c (Value.int .i64 i)) = List.replicate (m + c) (Value.int .i64 i) ++ List.replicate (n - (m + c)) (Value.int .i64 0) := by
  unfold over
  rw [List.take_append_of_le_length (by simp), List.take_of_length_le (by simp), List.length_replicate, List.drop_append, List.drop_of_length_le (by simp), List.nil_append, List.drop_replicate, List.length_replicate,
    List.replicate_append_replicate, show n - m - (m + c - m) = n - (m + c) by omega]

set_option maxRecDepth 100000 in
set_option maxHeartbeats 1000000 in
theorem repeat_c (w : World) (gx : Nat) (i : Int) (n : Nat) (h1 : 1 ≤ n) (h2 : n < 1073741824) (hx : w.cell? ⟨gx, 0, none⟩ = some (.int .i64 i)) :
    Calls Try.prog 38 #[.slice (some ⟨gx, 0, none⟩) 1 1, .int .i64 (n : Int)] w fun e w' => ∃ g, e = .returned (.slice (some ⟨g, 0, none⟩) n n) ∧ w'.heap[g]? = some (.cells (List.replicate n (Value.int .i64 i)).toArray 3 (0, 0)) ∧ w.heap.size ≤ g ∧ Kp (fun _ => False) w w' := by
  obtain ⟨i0, hi0, hz0, hz1, hz2⟩ := info_parts info_int
  have hmk := run_make (P := Try.prog) w 41 3 i0 _ Try.underlying41 hi0 hz0 .i64 .i64 (n : Int) (n : Int) (by omega) (by omega) (by rw [hz2]; omega) (by omega)
  rw [hz1, Int.toNat_natCast, Nat.mul_one] at hmk
  have hmade : madeCells (Value.int .i64 0).cells n = (List.replicate n (Value.int .i64 0)).toArray := by
    rw [← toList_madeCells_one]
    rfl
  rw [hmade] at hmk
  have hcv1 : IntKind.u64.wrap 1 = 1 := by decide
  have hcv2 : IntKind.u64.wrap (n : Int) = (n : Int) := by rw [IntKind.wrap]; simp [IntKind.bits, IntKind.signed]; omega
  have hmul : 1 * n / 18446744073709551616 = 0 ∧ 1 * n % 18446744073709551616 = n := by omega
  have hcv3 : IntKind.i64.wrap (n : Int) = (n : Int) := IntWalk.i64_in _ (by omega)
  have a1 : ¬ (n : Int) < 0 := by omega
  have a2 : ¬ (9223372036854775807 : Int) < (n : Int) := by omega
  have HMK := Lib.hid hmk
  have HX := Lib.hid hx
  clear hmk hx hi0 hz0 hz1 hz2 hmade
  go_enter Try.func38, Try.ntmps38
  go_wp2_with (first
    | (go_at_call 43; refine (Try.bits_Mul 1 n (by omega) (by omega) _).mono ?_; rintro e w' ⟨rfl, rfl⟩; rw [hmul.1, hmul.2])
    | ((with_reducible show wpList _ _ _ (Oper.mk _ (Op.makeSlice _ _ _) _ _ _ _ :: _) _ _); refine wpList_run _ _ rfl (by unfold execOp; simp only [Act.eval]; exact by simpa [Sem.run_bind] using congrArg (fun r => r.andThen fun a w' => Result.ok (Next.value a) w') HMK.out) ?_)
    | ((with_reducible show wpList _ _ _ (Oper.mk _ (Op.call _) _ _ _ _ :: _) _ _); refine wpList_copyA rfl _ _ _ _ rfl 3 Try.underlying41 1 (by kernel_rfl) w'.heap.size 0 n n ⟨gx, 0, none⟩ 1 1 (by rfl) (by rfl) [.int .i64 i] 1 (Nat.min_eq_left h1).symm rfl ?cpS (there_of (heap_alloc_new w' _) 0 1 (by simp; omega)) (by simp [Value.oneCell']) ?cpK))
  case cpS =>
    intro j v hv
    cases j with
    | zero =>
      simp only [List.getElem?_cons_zero, Option.some.injEq] at hv
      subst hv
      rw [Addr.add_mid]
      have := World.cell?_alloc_some w' ⟨gx, 0, none⟩ (.cells (Array.replicate n (.int .i64 0)) 3) (by rw [HX.out]; rfl)
      simpa using this.trans HX.out
    | succ j => simp at hv
  obtain ⟨W, hW⟩ : ∃ W, W = (w'.alloc (.cells (Array.replicate n (.int .i64 0)) 3)).setCells w'.heap.size 0 [.int .i64 i] := ⟨_, rfl⟩
  obtain ⟨g, hgd⟩ : ∃ g, g = w'.heap.size := ⟨_, rfl⟩
  have hRel : RepAt w' g i n (.int .i64 (1 : Nat)) W := by
    refine ⟨1, rfl, Nat.le_refl _, h1, ?_, ?_⟩
    · have h0 : (w'.alloc (.cells (Array.replicate n (.int .i64 0)) 3)).heap[w'.heap.size]? = some (.cells (List.replicate n (Value.int .i64 0)).toArray 3 (0, 0)) := by
        have := heap_alloc_new w' (.cells (Array.replicate n (.int .i64 0)) 3)
        simpa using this
      rw [hW, hgd, heap_setCells_same _ 0 _ _ h0 (by simp; omega)]
      have := rep_step i n 0 0 (by simp) (Nat.zero_le _)
      rw [over]
      obtain ⟨q, rfl⟩ : ∃ q, n = q + 1 := ⟨n - 1, by omega⟩
      simp [List.replicate_succ]
    · rw [hW]; exact Kp.setCells (fun h => absurd h (by omega)) _ _ _ ((Kp.refl _ _).alloc _)
  have HRel := Lib.hid hRel
  have HGD := Lib.hid hgd
  rw [← hW, ← hgd]
  clear hRel hW hgd hmul HMK HX
  go_loopw [8] (fun v wr => RepAt w' g i n v wr) (fun v _ => n - (intOf v).toNat)
  case atStart => exact HRel.out
  case round =>
    obtain ⟨m, rfl, hm1, hmn, hg, hK⟩ := hrel
    by_cases hlt : m < n
    · obtain ⟨c, hc⟩ : ∃ c, c = min m (n - m) := ⟨_, rfl⟩
      have hcm : c ≤ m := by omega
      have hcn : m + c ≤ n := by omega
      have hc1 : 1 ≤ c := by omega
      have hi0 : (0 : Int) ≤ (m : Int) := by omega
      have hi1 : (m : Int) ≤ (n : Int) := by omega
      have hi2 : (m : Int) < (n : Int) := by omega
      have HG := Lib.hid (And.intro hg (And.intro hK hc))
      have HN := Lib.hid (And.intro hm1 (And.intro hmn (And.intro hlt (And.intro hcm (And.intro hcn hc1)))))
      clear hg hK hc hm1 hmn hlt hcm hcn hc1
      go_wp2
      have hnm : ¬ n = m := by omega
      have hwmc : wrap64 ((m : Int) + (c : Int)) = (m : Int) + (c : Int) := by have := HN.out; exact IntWalk.wrap64_in _ (by omega)
      have hwmc2 : IntKind.i64.wrap ((m : Int) + (c : Int)) = (m : Int) + (c : Int) := (IntWalk.i64_left _).trans hwmc
      refine wp_region_held (S := fun _ => True) (by kernel_rfl) ?_
      change wpAnyH _ _ _ _ _ _ _ _ wr.drew
      refine wpAnyH_take (i := 0) (v := (.int .i64 m)) rfl (by kernel_rfl) (by kernel_rfl) (by kernel_rfl) (fun _ _ _ h => h) (Or.inl ⟨by rfl, fun w' hS => ?_⟩) trivial ?_
      · go_simp
      simp only [Act.put, List.getElem_toArray, List.getElem_cons_zero, List.getElem_cons_succ, List.setIfInBounds_toArray, List.set_cons_zero, List.set_cons_succ]
      refine wpAnyH_take (i := 1) (v := (.slice (some ⟨g, 0, none⟩) n n)) rfl (by kernel_rfl) (by kernel_rfl) (by kernel_rfl) (fun _ _ _ h => h) (Or.inl ⟨by rfl, fun w' hS => ?_⟩) trivial ?_
      · go_simp
      simp only [Act.put, List.getElem_toArray, List.getElem_cons_zero, List.getElem_cons_succ, List.setIfInBounds_toArray, List.set_cons_zero, List.set_cons_succ]
      refine wpAnyH_take (i := 2) (v := (.int .i64 m)) rfl (by kernel_rfl) (by kernel_rfl) (by kernel_rfl) (fun _ _ _ h => h) (Or.inl ⟨by rfl, fun w' hS => ?_⟩) trivial ?_
      · go_simp
      simp only [Act.put, List.getElem_toArray, List.getElem_cons_zero, List.getElem_cons_succ, List.setIfInBounds_toArray, List.set_cons_zero, List.set_cons_succ]
      refine wpAnyH_take (i := 3) (v := (.slice (some ⟨g, m, none⟩) (n - m) (n - m))) rfl (by kernel_rfl) (by kernel_rfl) (by kernel_rfl) (fun _ _ _ h => h) (Or.inl ⟨by rfl, fun w' hS => ?_⟩) trivial ?_
      · go_simp
      simp only [Act.put, List.getElem_toArray, List.getElem_cons_zero, List.getElem_cons_succ, List.setIfInBounds_toArray, List.set_cons_zero, List.set_cons_succ]
      refine wpAnyH_take (i := 4) (v := (.slice (some ⟨g, 0, none⟩) n n)) rfl (by kernel_rfl) (by kernel_rfl) (by kernel_rfl) (fun _ _ _ h => h) (Or.inl ⟨by rfl, fun w' hS => ?_⟩) trivial ?_
      · go_simp
      simp only [Act.put, List.getElem_toArray, List.getElem_cons_zero, List.getElem_cons_succ, List.setIfInBounds_toArray, List.set_cons_zero, List.set_cons_succ]
      refine wpAnyH_take (i := 5) (v := (.int .i64 m)) rfl (by kernel_rfl) (by kernel_rfl) (by kernel_rfl) (fun _ _ _ h => h) (Or.inl ⟨by rfl, fun w' hS => ?_⟩) trivial ?_
      · go_simp
      simp only [Act.put, List.getElem_toArray, List.getElem_cons_zero, List.getElem_cons_succ, List.setIfInBounds_toArray, List.set_cons_zero, List.set_cons_succ]
      refine wpAnyH_take (i := 6) (v := (.slice (some ⟨g, 0, none⟩) m n)) rfl (by kernel_rfl) (by kernel_rfl) (by kernel_rfl) (fun _ _ _ h => h) (Or.inl ⟨by rfl, fun w' hS => ?_⟩) trivial ?_
      · go_simp
      simp only [Act.put, List.getElem_toArray, List.getElem_cons_zero, List.getElem_cons_succ, List.setIfInBounds_toArray, List.set_cons_zero, List.set_cons_succ]
      have hcpy := run_copy_many (P := Try.prog) wr.drew 41 41 3 3 g m (n - m) (n - m) ⟨g, 0, none⟩ m n (List.replicate c (.int .i64 i)) 1 c Try.underlying41 (by kernel_rfl) (by rw [HG.out.2.2]) (by rw [List.length_replicate, Nat.mul_one])
        (by
          intro j v hv
          have hcm := HN.out.2.2.2.1
          have hv' : j < c ∧ v = .int .i64 i := by
            rw [List.getElem?_replicate] at hv
            split at hv
            · exact ⟨by assumption, (Option.some.inj hv).symm⟩
            · cases hv
          obtain ⟨hj, rfl⟩ := hv'
          rw [Addr.add_mid]
          have := range_all HG.out.1 j (.int .i64 i) (by rw [List.getElem?_append_left (by simp; omega), List.getElem?_replicate, if_pos (by omega)])
          simpa using this)
        (fun j hj => by have hcn := HN.out.2.2.2.2.1; have := (there_of HG.out.1 m c (by simp; omega) j (by simpa using hj)).1; exact this)
        (fun j hj => by have hcn := HN.out.2.2.2.2.1; have := (there_of HG.out.1 m c (by simp; omega) j (by simpa using hj)).2; exact this)
        (fun v hv => by rw [List.eq_of_mem_replicate hv]; rfl)
      refine anyH_one (i := 7) (by kernel_rfl) ?_
      refine wpOp_value (.int .i64 c) (wr.drew.setCells g m (List.replicate c (.int .i64 i))) rfl rfl (by
        simp [execOp, resolve, invoke, builtin, hcpy, Act.eval, goInt]) ⟨trivial, ?_⟩
      simp only [Act.put, List.getElem_toArray, List.getElem_cons_zero, List.getElem_cons_succ, List.setIfInBounds_toArray, List.set_cons_zero, List.set_cons_succ]
      refine wpAnyH_take (i := 8) (v := (.int .i64 ((m : Int) + (c : Int)))) rfl (by kernel_rfl) (by kernel_rfl) (by kernel_rfl) (fun _ _ _ h => h) (Or.inl ⟨by rfl, fun w' hS => ?_⟩) trivial ?_
      · go_simp
      simp only [Act.put, List.getElem_toArray, List.getElem_cons_zero, List.getElem_cons_succ, List.setIfInBounds_toArray, List.set_cons_zero, List.set_cons_succ]
      refine wpAnyH_take (i := 9) (v := (.int .i64 ((m : Int) + (c : Int)))) rfl (by kernel_rfl) (by kernel_rfl) (by kernel_rfl) (fun _ _ _ h => h) (Or.inl ⟨by rfl, fun w' hS => ?_⟩) trivial ?_
      · go_simp
      simp only [Act.put, List.getElem_toArray, List.getElem_cons_zero, List.getElem_cons_succ, List.setIfInBounds_toArray, List.set_cons_zero, List.set_cons_succ]
      refine wpAnyH_done (by kernel_rfl) ?_ _
      try simp only [Act.put, List.getElem_toArray, List.getElem_cons_zero, List.getElem_cons_succ, List.setIfInBounds_toArray, List.set_cons_zero, List.set_cons_succ]
      obtain ⟨W2, hW2⟩ : ∃ W2, W2 = wr.drew.setCells g m (List.replicate c (.int .i64 i)) := ⟨_, rfl⟩
      rw [← hW2]
      have HW2 := Lib.hid hW2
      clear hcpy hW2
      go_wp2
      go_roundw
      case rel =>
        obtain ⟨hm1, hmn, hlt, hcm, hcn, hc1⟩ := HN.out
        obtain ⟨hg, hK, hc⟩ := HG.out
        refine ⟨m + c, by simp, by omega, hcn, ?_, ?_⟩
        · rw [HW2.out, heap_setCells_same _ m wr.drew _ hg (by simp; omega), rep_step i n m c hc hmn]
        · rw [HW2.out]; exact Kp.setCells (fun h => absurd h (by rw [HGD.out]; omega)) _ _ _ hK.drew
      case measure =>
        obtain ⟨hm1, hmn, hlt, hcm, hcn, hc1⟩ := HN.out
        show n - ((m : Int) + (c : Int)).toNat < n - (m : Int).toNat
        omega
    · have HE := Lib.hid (And.intro hmn (And.intro hg (And.intro hK hlt)))
      have hlt' : ¬ ((m : Int) < (n : Int)) := by omega
      clear hg hK hm1 hmn hlt
      go_wp2
      go_ret
      obtain ⟨hmn, hg, hK, hlt⟩ := HE.out
      have : m = n := by omega
      subst this
      refine ⟨g, rfl, ?_, by rw [HGD.out]; exact Nat.le_refl _, hK⟩
      simpa using hg

def opensL (D : Dsk) (l : List Int) : List Int := l.flatMap (fun i => List.replicate (D.at i).length i)
/-- What Open returns. -/
def Dsk.opens (D : Dsk) : List Int := opensL D D.keys

/-- The loop of Open under way. -/
def OpensAt (w : World) (B : Nat) (b cb mb : Nat) (l : List Ent) (clock : Nat) (D : Dsk) (F : Nat → Prop) (rv : Value) (v i : Value) (wr : World) : Prop :=
  ∃ n : Nat, i = .int .i64 n ∧ n ≤ D.keys.length ∧ DskAt wr b cb mb l clock D F ∧ wr.ownsRow (w.heap.size + 1) 3 1 rv D.keys.length (D.keys.map (Value.int .i64)) ∧
    wr.ownsRow B 3 1 v (opensL D (D.keys.take n)).length ((opensL D (D.keys.take n)).map (Value.int .i64)) ∧ (opensL D (D.keys.take n)).length ≤ n * 1048576 ∧ Kp (fun _ => False) w wr ∧ B ≤ wr.heap.size

set_option maxRecDepth 100000 in
set_option maxHeartbeats 2000000 in
theorem open_c (w : World) (b : Nat) (D : Dsk) (F : Nat → Prop) (h : IsDsk w b D F) (hsm : ∀ p ∈ D.opn, p.2.length < 1048576) :
    Calls Try.prog 18 #[.pointer (some ⟨b, 0, none⟩)] w fun e w' => ∃ v, e = .returned v ∧ w'.ownsRow w.heap.size 3 1 v D.opens.length (D.opens.map (Value.int .i64)) ∧ Kp (fun _ => False) w w' := by
  obtain ⟨cb, mb, l, clock, hD⟩ := h
  have HD := Lib.hid hD
  have HSM := Lib.hid hsm
  obtain ⟨i0, hi0, hz0, hz1, hz2⟩ := info_parts info_int
  have HI := Lib.hid (And.intro hi0 (And.intro hz0 (And.intro hz1 hz2)))
  have hkl : D.keys.length ≤ 65536 := by
    have := hD.few
    have h2 : D.keys.length = l.length := by rw [Dsk.keys, List.length_mergeSort, ← hD.ents]; simp
    omega
  have HKL := Lib.hid hkl
  clear hD hsm hi0 hz0 hz1 hz2 hkl
  go_enter Try.func18, Try.ntmps18
  go_wp2_with (first
    | (go_at_call 36; refine (sectors_c _ b D F ⟨cb, mb, l, clock, HD.out⟩).mono ?_; rintro e w1 ⟨rv, rfl, hrow, hK1⟩; obtain ⟨p, cap, rfl⟩ : ∃ p cap, rv = .slice p D.keys.length cap := by
        rcases hrow.2 with ⟨h1, h2⟩ | ⟨g, cap, cur, h1, -⟩
        · exact ⟨none, 0, by rw [h1, h2]⟩
        · exact ⟨_, _, h1⟩))
  have hRel : OpensAt w w1.heap.size b cb mb l clock D F (.slice p D.keys.length cap) (.slice none 0 0) (.int .i64 (0 : Nat)) w1 := by
    have hD := HD.out
    exact ⟨0, rfl, Nat.zero_le _, hD.step (fun _ h => h) (fun k hk => hK1.block k (hD.lt k hk) (fun h => h)) (fun k hk => Nat.lt_of_lt_of_le (hD.lt k hk) hK1.size),
      hrow, World.ownsRow_nil _ _ _ _, by simp [opensL], hK1, Nat.le_refl _⟩
  have HRel := Lib.hid hRel
  have HB := Lib.hid hK1.size
  obtain ⟨B, hB⟩ : ∃ B, B = w1.heap.size := ⟨_, rfl⟩
  rw [← hB] at HRel HB
  have HROW : Hid (∀ g, p = some ⟨g, 0, none⟩ → g < B) := Lib.hid (by
    intro g hg
    subst hg
    have := (hrow.lt g rfl).2
    rw [hB]; exact this)
  clear hRel hrow hK1 hB
  go_loopw [3, 9] (fun v i wr => OpensAt w B b cb mb l clock D F (.slice p D.keys.length cap) v i wr) (fun _ i _ => D.keys.length - (intOf i).toNat)
  case atStart => exact HRel.out
  case round =>
    obtain ⟨n, rfl, hn, hD, hown, hacc, hal, hK, hBr⟩ := hrel
    by_cases hnl : n < D.keys.length
    · obtain ⟨g, cur, rfl, hg, htake⟩ : ∃ g cur, p = some ⟨g, 0, none⟩ ∧ wr.heap[g]? = some (.cells cur 3 (0, 0)) ∧ cur.toList.take D.keys.length = D.keys.map (Value.int .i64) := by
        rcases hown.2 with ⟨h1, h2⟩ | ⟨g, cap', cur, h1, h2, h3, h4, h5, h6, h7⟩
        · omega
        · injection h1 with h1
          exact ⟨g, cur, h1, h3, by simpa using h7⟩
      obtain ⟨key, hkey⟩ : ∃ key, D.keys[n]? = some key := ⟨_, List.getElem?_eq_getElem hnl⟩
      have hcell : wr.cell? ⟨g, n, none⟩ = some (.int .i64 key) := by
        rw [cell_of hg]
        have h1 := congrArg (fun t => t[n]?) htake
        simp only [List.getElem?_take, if_pos hnl, List.getElem?_map, hkey, Option.map_some] at h1
        simpa using h1
      have hkm : key ∈ l.map (·.key) := by
        have h1 := List.mem_of_getElem? hkey
        rw [Dsk.keys, List.mem_mergeSort, ← hD.ents] at h1
        simpa using h1
      obtain ⟨x, hx, hxk, hget, hsecs⟩ : ∃ x, x ∈ l ∧ x.key = key ∧ (IMap.get (l.map Ent.i) key).getD (.slice none 0 0) = x.val ∧ D.at key = x.secs := by
        rcases at_of hD key with ⟨x, hx, hxk, hget, hsecs⟩ | ⟨hno, -, -⟩
        · exact ⟨x, hx, hxk, by rw [hget], hsecs⟩
        · obtain ⟨x, hx, hxk⟩ := List.mem_map.1 hkm
          exact absurd hxk (hno x hx)
      have hok := hD.ok x hx
      obtain ⟨k, rfl⟩ : ∃ k : Nat, key = k := ⟨key.toNat, by have := hok.lo; omega⟩
      have hsl : x.secs.length < 1048576 := HSM.out (x.key, x.secs) (by rw [← hD.ents]; exact List.mem_map.2 ⟨x, hx, rfl⟩)
      have hxl : 0 < x.secs.length := List.length_pos_iff.2 hok.ne
      obtain ⟨gx, capx, hval, -, -⟩ := hok.own.form hxl
      obtain ⟨c, hc⟩ : ∃ c, c = x.secs.length := ⟨_, rfl⟩
      rw [← hc] at hval hsl hxl
      obtain ⟨acc, hacc'⟩ : ∃ acc, acc = opensL D (D.keys.take n) := ⟨_, rfl⟩
      have hnext : opensL D (D.keys.take (n + 1)) = acc ++ List.replicate c (k : Int) := by
        rw [List.take_add_one, hkey, Option.toList_some, hacc', opensL, opensL, List.flatMap_append, List.flatMap_singleton, hsecs, hc]
      rw [← hacc'] at hacc hal
      have hD1 := hD
      have hlk : ∀ o, (Instr.lookup 63 (.map (some mb)) (.int .i64 (k : Int)) false).run Try.prog (wr.alloc o) = .ok (.slice (some ⟨gx, 0, none⟩) c capx) (wr.alloc o) := by
        intro o
        have hm2 := (Below.heap_alloc wr o mb (hD.lt _ hD.fm)).trans hD.hm
        have := run_lookup_imap Try.underlying63 Try.underlying3 (wr.alloc o) mb _ clock hm2 (k : Int) (.slice none 0 0) (by kernel_rfl)
        rw [hget, hval] at this
        exact this
      have hc1 := (dsk_cells hD).2.1
      have hbl := hD.lt _ hD.fb
      have hn0 : (0 : Int) ≤ (n : Int) := Int.natCast_nonneg _
      have hnk : (n : Int) < (D.keys.length : Int) := by omega
      have HX := Lib.hid (And.intro hD (And.intro hown (And.intro hK (And.intro hBr (And.intro hnext (And.intro hal (And.intro hsl (And.intro hxl hnl))))))))
      have HA := Lib.hid hacc
      have HBR := Lib.hid hBr
      have HLEN := Lib.hid (And.intro hal hsl)
      have HN := Lib.hid hn
      clear hD hown hacc hK hBr hnext hal hsl hxl hnl hn hD1 hok hval hget hsecs hkm hkey hg htake hxk hx hc hacc'
      go_wp2_with (first
        | (go_at_call 38; refine (repeat_c _ wr.heap.size (k : Int) c HX.out.2.2.2.2.2.2.2.1 (by have := HLEN.out; omega) (by simp)).mono ?_; rintro e w2 ⟨g2, rfl, hg2, hge2, hK2⟩)
        | (at_builtin; refine wpList_append_lies _ (by rfl) _ _ 41 (by rfl) B 3 i0 _ 1 8 Try.underlying41 HI.out.1 HI.out.2.1 HI.out.2.2.1 HI.out.2.2.2 rfl (by omega) u3 acc.length (acc.map (Value.int .i64)) (by rfl) ?owns ⟨g2, 0, none⟩ c c (List.replicate c (.int .i64 (k : Int))) (by rfl) (by simp) ?news ?ones HX.out.2.2.2.2.2.2.2.1 ?mx ?bytes ?base w2.heap.size rfl ?_))
      case owns => exact owns_kept HA.out (((Kp.refl _ wr).alloc _).trans hK2 (fun _ _ h => h))
      case news =>
        intro j u hu
        rw [Addr.add_mid]
        have := range_all hg2 j u hu
        simpa using this
      case ones => intro u hu; rw [List.eq_of_mem_replicate hu]; rfl
      case mx => have := HLEN.out; have := HN.out; have := HKL.out; unfold maxLen; omega
      case bytes => have := HLEN.out; have := HN.out; have := HKL.out; omega
      case base => have h1 := HBR.out; have h2 := hK2.size; simp at h2; omega
      intro g3 cap3 w3 hown3 hgrow3 hat3 hlt3
      have hk02 : Kp (fun _ => False) wr w2 := ((Kp.refl _ wr).alloc _).trans hK2 (fun _ _ h => h)
      have hrel : OpensAt w B b cb mb l clock D F (.slice (some ⟨g, 0, none⟩) D.keys.length cap) (.slice (some ⟨g3, 0, none⟩) (acc.length + c) cap3) (.int .i64 ((n : Int) + 1)) w3 := by
        obtain ⟨hD, hown, hK, hBr, hnext, hal, hsl, hxl, hnl⟩ := HX.out
        have hu : ∀ k, u3.ownBlock = some k → B ≤ k := fun k hk => (HA.out.lt k hk).1
        have hblk : ∀ k, k < wr.heap.size → u3.ownBlock ≠ some k → w3.heap[k]? = wr.heap[k]? := fun k hk hne =>
          (hgrow3.block k (Nat.lt_of_lt_of_le hk hk02.size) (fun e => hne e.symm)).trans (hk02.block k hk (fun h => h))
        have hsz : wr.heap.size ≤ w3.heap.size := Nat.le_trans hk02.size hgrow3.size
        have hKK : Kp (fun _ => False) w w3 := (hK.trans hk02 (fun _ _ h => h)).grown hgrow3 (fun k hk hlt => by have := hu k hk; have := HB.out; omega)
        have hlen : (acc ++ List.replicate c (k : Int)).length = acc.length + c := by simp
        refine ⟨n + 1, by simp, by omega, ?_, ?_, ?_, ?_, hKK, Nat.le_trans hBr hsz⟩
        · exact hD.step (fun _ h => h) (fun j hj => hblk j (hD.lt j hj) (fun e => by have h1 := hu j e; have h2 := HD.out.lt j hj; have := HB.out; omega)) (fun j hj => Nat.lt_of_lt_of_le (hD.lt j hj) hsz)
        · have h1 := owns_kept hown hk02
          refine h1.kept hgrow3 ?_
          right
          intro e
          have h2 := hu g (by rw [← e]; rfl)
          have h3 := HROW.out g rfl
          omega
        · rw [hnext, hlen]
          simpa using hown3
        · rw [hnext, hlen]; omega
      have HR3 := Lib.hid hrel
      have HNL := Lib.hid HX.out.2.2.2.2.2.2.2.2
      have HWN : Hid (wrap64 ((n : Int) + 1) = (n : Int) + 1) := Lib.hid (IntWalk.wrap64_in _ (by have := HKL.out; have := HN.out; omega))
      clear hrel hown3 hgrow3 hat3 hlt3 hk02 hK2 hg2 hge2
      go_wp2
      go_roundw
      case rel => rw [HWN.out]; exact HR3.out
      case measure => exact measure_next HNL.out _ _ (congrArg (Value.int .i64) HWN.out) rfl
    · have HE := Lib.hid (And.intro hnl (And.intro hn (And.intro hacc (And.intro hK HB.out))))
      have hlt : ¬ ((n : Int) < (D.keys.length : Int)) := by omega
      clear hnl hn hD hown hacc hal hK hBr
      go_wp2
      go_ret
      obtain ⟨hnl, hn, hacc, hK, hB⟩ := HE.out
      rw [List.take_of_length_le (by omega)] at hacc
      exact ⟨_, rfl, owns_mono hacc hB, hK⟩

end Go.Proofs.Ytopeelclhpjngaa
