/- DiskKeepsWhatIsSure returns true. -/
import Derived.Test.YtopeelclhpjngaaLawM
import Derived.Test.YtopeelclhpjngaaLawO
import Derived.Test.YtopeelclhpjngaaLawP
attribute [local go_sem ↓] Go.wp_at_zero Go.wp_at_succ
namespace Go.Proofs.Ytopeelclhpjngaa
set_option linter.unusedSimpArgs false
set_option linter.unusedVariables false
open Go Go.ChangeMaps Go.RowKit Go.Proofs

theorem Rows.lt {w : World} {vals : List Value} {L : List (List Sec)} (h : Rows w vals L) {k : Nat} (hk : KR vals k) : k < w.heap.size := by
  obtain ⟨v, hv, hg⟩ := hk
  obtain ⟨i, hi, hiv⟩ := List.getElem_of_mem hv
  obtain ⟨v', s, h1, h2, h3⟩ := h.val i (by rw [← h.lv]; exact hi)
  rw [List.getElem?_eq_getElem hi, hiv] at h1
  cases h1
  obtain ⟨C, hC⟩ := own_lt h3 hg
  exact lt_of_heap hC
theorem Rows.quiet {w w' : World} {vals : List Value} {L : List (List Sec)} (h : Rows w vals L) (hk : Kp (fun _ => False) w w') : Rows w' vals L :=
  h.kept (fun k hK => hk.block k (h.lt hK) (fun e => e))
theorem two_kp (w1 : World) (sure : List Sec) (vals : List Value) :
    Kp (fun _ => False) w1 ((((w1.alloc (.cells (flatS z16).toArray 42)).alloc (.cells n16.toArray 44)).setCells w1.heap.size 0 (flatS sure)).setCells (w1.heap.size + 1) 0 vals) :=
  Kp.setCells (fun h => absurd h (by omega)) _ _ _ (Kp.setCells (fun h => absurd h (by omega)) _ _ _ (((Kp.refl _ w1).alloc _).alloc _))

/-- Two disks, and variables. -/
def Twin (wz w : World) (b c : Nat) (D C : Dsk) (vals : List Value) (L : List (List Sec)) (vs : List (Nat × Obj)) : Prop := San wz w b D vs ∧ San wz w c C vs ∧ Rows w vals L
theorem Twin.quiet {wz w w' : World} {b c : Nat} {D C : Dsk} {vals : List Value} {L : List (List Sec)} {vs : List (Nat × Obj)} (h : Twin wz w b c D C vals L vs) (hk : Kp (fun _ => False) w w') : Twin wz w' b c D C vals L vs :=
  ⟨h.1.quiet hk, h.2.1.quiet hk, h.2.2.quiet hk⟩
theorem Twin.sub {wz w : World} {b c : Nat} {D C : Dsk} {vals : List Value} {L : List (List Sec)} {vs us : List (Nat × Obj)} (h : Twin wz w b c D C vals L vs) (hs : ∀ p ∈ us, p ∈ vs) : Twin wz w b c D C vals L us := ⟨h.1.sub hs, h.2.1.sub hs, h.2.2⟩
theorem Twin.fresh {wz w : World} {b c : Nat} {D C : Dsk} {vals : List Value} {L : List (List Sec)} {vs : List (Nat × Obj)} (h : Twin wz w b c D C vals L vs) (s : Sec) :
    Twin wz ((w.alloc (.cells (bcells zsec).toArray 33)).setCells w.heap.size 0 (bcells s)) b c D C vals L ((w.heap.size, oS s) :: vs) :=
  ⟨h.1.fresh s, h.2.1.fresh s, h.2.2.quiet (kp_fresh _ _ _ _)⟩

theorem possible_c (w : World) (x : Sec) (e : Int) (s : Sec) (g cap : Nat) (t : List Sec) (hP : Poss x e s t) (hrow : ∀ j u, t[j]? = some u → w.rangeAt g (j * 64) (bcells u)) (hne : 0 < t.length) (hsm : t.length < 1000) :
    Calls Try.prog 19 #[bv x, .int .i64 e, bv s, .slice (some ⟨g, 0, none⟩) t.length cap] w fun e w' => e = .returned (.bool true) ∧ Kp (fun _ => False) w w' := by
  rcases hP with ⟨rfl, rfl⟩ | ⟨rfl, h⟩
  · exact possible_rot w s _
  · exact possible_ok w x s g cap t hrow hne hsm h
theorem last_facts (n q : Nat) (h : n = q + 1) (hn : n < 1000) : (0 : Int) ≤ (q : Int) ∧ (q : Int) < (n : Int) ∧ (n : Int) - 1 = (q : Int) ∧ IntKind.i64.wrap ((n : Int) - 1) = (q : Int) ∧ wrap64 ((n : Int) - 1) = (q : Int) ∧ wrap64 (q : Int) = (q : Int) ∧
    IntKind.i64.wrap (q : Int) = (q : Int) ∧ ((n : Int) == 0) = false := by
  have h1 : wrap64 ((n : Int) - 1) = (q : Int) := by rw [IntWalk.wrap64_in _ (by omega)]; omega
  have h2 : wrap64 (q : Int) = (q : Int) := IntWalk.wrap64_in _ (by omega)
  exact ⟨by omega, by omega, by omega, (IntWalk.i64_left _).trans h1, h1, h2, (IntWalk.i64_left _).trans h2, by simp; omega⟩
theorem vals_cell {w : World} {r : Nat} {vals : List Value} (h : w.heap[r]? = some (o44 vals)) (k : Nat) (v : Value) (hv : vals[k]? = some v) : w.cell? ⟨r, k, none⟩ = some v := (cell_of h k).trans (by simpa using hv)

attribute [local irreducible] wpStill in
set_option maxRecDepth 100000 in
set_option maxHeartbeats 40000000 in
theorem keeps_c (w : World) (lv kv : Value) (xs : List RefOp) (ks : List Int) (n : Nat) (hn : n ≤ 255) (hxs : OpsIn w lv xs) (hks : Ints w kv ks) (hl : xs.length ≤ 40) (hk : ks.length ≤ 20) :
    Calls Try.prog 4 #[lv, .int .u8 n, kv] w fun e w' => e = .returned (.bool true) ∧ Kp (fun _ => False) w w' := by
  obtain ⟨pl, cl, rfl⟩ := hxs.len
  obtain ⟨pk, ck, rfl⟩ := hks.len
  have h40 : ¬ (40 : Int) < (xs.length : Int) := by omega
  have h20 : ¬ (20 : Int) < (ks.length : Int) := by omega
  obtain ⟨i, hi⟩ : ∃ i, n % 41 = i := ⟨_, rfl⟩
  have hwn : IntKind.i64.wrap (n : Int) = (n : Int) := IntWalk.i64_in _ (by omega)
  have hmi : (n : Int) % 41 = (i : Int) := by omega
  have hmi' : (n : Int).tmod 41 = (i : Int) := by rw [Int.tmod_eq_emod_of_nonneg (by omega)]; exact hmi
  have hn0 : (0 : Int) ≤ (n : Int) := by omega
  have HX := Lib.hid (And.intro hxs (And.intro hks hl))
  clear hxs hks hl hn hk hi
  go_enter Try.func4, Try.ntmps4
  go_wp2_with (first
    | ((with_reducible show wpList _ _ _ (Oper.mk _ _ _ _ _ (some _) :: _) _ _); refine wpList_guarded (by rfl) ?_)
    | (go_at_call 13; refine (written_c w (.slice pl xs.length cl) xs i HX.out.1 HX.out.2.2).mono ?_; rintro e w1 ⟨bb, D, sure, vals, L, rfl, hS, hR, hI, hL⟩; have H1 := Lib.hid (And.intro hS (And.intro hR (And.intro hI.lS (hI.keeps HX.out.2.2 ks)))); clear hS hR hI hL)
    | ((with_reducible show wpList _ _ _ (Oper.mk _ (Op.alloc 42) _ _ _ _ :: _) _ _); refine wpList_allocA 42 rfl rfl (flatS z16) zero42 ?_)
    | ((with_reducible show wpList _ _ _ (Oper.mk _ (Op.alloc 44) _ _ _ _ :: _) _ _); refine wpList_allocA 44 rfl rfl n16 zero44 ?_)
    | ((with_reducible show wpList _ _ _ (Oper.mk _ (Op.store 42 _ _) _ _ _ _ :: _) _ _); refine wpList_storeA 42 rfl _ _ rfl w1.heap.size 0 (flatS sure) (by rfl) (by rfl) (two_there w1 sure vals H1.out.2.2.1 H1.out.2.1.lv).1 (len42 sure H1.out.2.2.1) (flatS_oneC _) ?_)
    | ((with_reducible show wpList _ _ _ (Oper.mk _ (Op.store 44 _ _) _ _ _ _ :: _) _ _); refine wpList_storeA 44 rfl _ _ rfl (w1.heap.size + 1) 0 vals (by rfl) (by rfl) (two_there w1 sure vals H1.out.2.2.1 H1.out.2.1.lv).2 (len44 vals H1.out.2.1.lv) H1.out.2.1.one ?_; have H2 := Lib.hid (And.intro (two_start H1.out.1 sure vals H1.out.2.2.1 H1.out.2.1.lv) (H1.out.2.1.quiet (two_kp w1 sure vals))); generalize hw2 : (((w1.alloc (.cells (flatS z16).toArray 42)).alloc (.cells n16.toArray 44)).setCells w1.heap.size 0 (flatS sure)).setCells (w1.heap.size + 1) 0 vals = w2 at *; clear hw2; have KF := Lib.hid H1.out.2.2.2)
    | (go_at_call 14; (with_reducible show Calls _ _ _ w2 _); refine (H2.out.1.crash (.slice pk ks.length ck) ks (HX.out.2.1.kept H2.out.1.kp) KF.out.small).mono ?_; rintro e w3 ⟨bc, rfl, h, h'⟩; have H3 : Hid (Twin w w3 bb bc D (D.crash ks) vals L [(w1.heap.size, o42 sure), (w1.heap.size + 1, o44 vals)]) := Lib.hid ⟨H2.out.1.quiet h', h, H2.out.2.quiet h'⟩; clear h h'; generalize D.crash ks = C at *)
    | (go_at_call 15; (with_reducible show Calls _ _ _ w3 _); refine (H3.out.2.1.size).mono ?_; rintro e w' ⟨rfl, rfl⟩; rw [KF.out.len])
    | (go_at_call 16; (with_reducible show Calls _ _ _ w3 _); refine (H3.out.2.1.down).mono ?_; rintro e w' ⟨rfl, rfl⟩; rw [KF.out.dead])
    | (go_at_call 17; (with_reducible show Calls _ _ _ w3 _); refine (H3.out.2.1.steps).mono ?_; rintro e w' ⟨rfl, rfl⟩; rw [KF.out.steps])
    | (go_at_call 18; (with_reducible show Calls _ _ _ w3 _); refine (H3.out.2.1.open (by rw [KF.out.opn]; simp)).mono ?_; rintro e w4 ⟨po, co, rfl, -, h⟩; have H4 := Lib.hid (H3.out.quiet h); clear h; simp only [KF.out.opns, List.length_nil]))
  have HLS := Lib.hid H1.out.2.2.1
  obtain ⟨r9, hr9⟩ : ∃ r9, r9 = w1.heap.size + 1 := ⟨_, rfl⟩
  obtain ⟨r8, hr8⟩ : ∃ r8, r8 = w1.heap.size := ⟨_, rfl⟩
  rw [← hr9] at H4 ⊢
  rw [← hr8] at H4 ⊢
  clear hr8 hr9 H3 H2 hmi hmi' hwn
  go_loopw [61] (fun kv wr => ∃ k : Nat, kv = .int .i64 k ∧ k ≤ 16 ∧ Twin w wr bb bc D C vals L [(r8, o42 sure), (r9, o44 vals)]) (fun kv _ => 16 - (intOf kv).toNat)
  case atStart => exact ⟨0, rfl, by omega, H4.out⟩
  case round =>
    obtain ⟨k, rfl, hk, hS⟩ := hrel
    by_cases hlt : k < 16
    · obtain ⟨s, hs⟩ : ∃ s, sure[k]? = some s := ⟨_, List.getElem?_eq_getElem (by rw [HLS.out]; exact hlt)⟩
      obtain ⟨v, t, hv, ht, hown⟩ := hS.2.2.val k hlt
      obtain ⟨p, c2, rfl⟩ := own_slice hown
      have hk0 : (0 : Int) ≤ (k : Int) := by omega
      have hk16 : (k : Int) < 16 := by omega
      by_cases htn : t = []
      · subst htn
        have HZ := Lib.hid (And.intro hS (And.intro hlt (And.intro (KF.out.sur k s hlt hs ht) (And.intro hs hv))))
        clear hS hlt hs hv ht hown hk
        go_wp2_with (first
          | ((with_reducible show wpList _ _ _ (Oper.mk _ _ _ _ _ (some _) :: _) _ _); refine wpList_guarded (by rfl) ?_)
          | (go_at_call 11; (with_reducible show Calls _ _ _ wr _); refine (HZ.out.1.2.1.read k).mono ?_; rintro e wa ⟨rfl, h⟩; have HA := Lib.hid (HZ.out.1.quiet h); clear h; simp only [HZ.out.2.2.1])
          | ((with_reducible show wpList _ _ _ (Oper.mk _ (Op.alloc 33) _ _ _ _ :: _) _ _); refine wpList_allocA 33 rfl rfl (bcells zsec) zeroSec ?_)
          | ((with_reducible show wpList _ _ _ (Oper.mk _ (Op.store 33 (Operand.tmp 12) _) _ _ _ _ :: _) _ _); (with_reducible show wpList _ _ _ _ _ (World.alloc wa _)); refine wpList_storeA 33 rfl _ _ rfl wa.heap.size 0 (bcells s) (by rfl) (by rfl) (th_fresh wa _) (lenSec _) (bcells_one _) ?_; have HB := Lib.hid (HA.out.fresh s); generalize hwb : (wa.alloc (.cells (bcells zsec).toArray 33)).setCells wa.heap.size 0 (bcells s) = wb at *; clear hwb; have hcb := vals_cell (HB.out.1.var (r9, o44 vals) (.tail _ (.tail _ (.head _)))) k _ HZ.out.2.2.2.2; simp only [List.length_nil] at hcb))
        have HC := Lib.hid (HB.out.quiet ((Kp.refl _ wb).drew))
        clear hcb
        refine wp_region_still_tail 8 (by kernel_rfl) (by kernel_rfl) ?_
        simp only [List.take_succ_cons, List.take_zero, List.drop_succ_cons, List.drop_zero]
        change wpStill _ _ wb.drew _ _ _
        still_step
        still_step
        still_step
        refine stillG_loadA 33 _ (by rfl) _ rfl wa.heap.size 0 (by rfl) (bcells s) (HC.out.1.rd (.head _)) Try.underlying33 rfl (lenSec _) ?_
        still_step
        still_step
        refine stillG_loadA 33 _ (by rfl) _ rfl r8 (k * 64) (by rfl) (bcells s) (sure_range (HC.out.1.var (r8, o42 sure) (.tail _ (.head _))) k s HZ.out.2.2.2.1) Try.underlying33 rfl (lenSec _) ?_
        refine stillG_neS (by rfl) _ _ rfl s s (by rfl) (by rfl) ?_
        simp only [decide_true, Bool.not_true]
        refine wpStill_nil ?_
        change wpList _ _ _ _ _ wb.drew
        generalize wb.drew = wc at *
        go_wp2
        go_roundw
        case rel => exact ⟨k + 1, by simp, HZ.out.2.1, HC.out.sub (fun p hp => .tail _ hp)⟩
        case measure => exact measure_next HZ.out.2.1 _ _ rfl rfl
      · obtain ⟨q, hq⟩ : ∃ q, t.length = q + 1 := ⟨t.length - 1, by have := List.length_pos_iff.2 htn; omega⟩
        obtain ⟨g, cap, hval, -, -⟩ := hown.form (by omega)
        injection hval with hp1 _ hp2
        subst hp1
        have hP := KF.out.poss k s t hlt hs ht htn
        have hLast := KF.out.last k t hlt ht htn
        have hfew := KF.out.few k t ht
        have hrow : ∀ j u, t[j]? = some u → wr.rangeAt g (j * 64) (bcells u) := fun j u hu => by
          have hj := (List.getElem?_eq_some_iff.1 hu).1
          have := row_sec hown j hj
          rwa [(List.getElem?_eq_some_iff.1 hu).2] at this
        obtain ⟨last, hl⟩ : ∃ last, t.getLastD zsec = last := ⟨_, rfl⟩
        have hlast : t[q]? = some last := by
          rw [← hl, List.getLastD_eq_getLast?, List.getLast?_eq_getElem?, hq, Nat.add_sub_cancel, List.getElem?_eq_getElem (by omega)]; rfl
        rw [hl] at hLast
        obtain ⟨x, e, hxe⟩ : ∃ x e, C.read (k : Int) = (x, e) := ⟨_, _, rfl⟩
        rw [hxe] at hP
        have HZ := Lib.hid (And.intro hS (And.intro hlt (And.intro hxe (And.intro hs (And.intro hv (And.intro hP (And.intro hLast (And.intro hrow (And.intro hlast (And.intro hfew hq))))))))))
        obtain ⟨hq0, hq1, hq2, hq3, hq4, hq5, hq7, hq6⟩ := last_facts t.length q hq hfew
        clear hS hlt hs hv ht hown hk hP hLast hrow hlast hfew hq hxe hl htn hp2
        go_wp2_with (first
          | ((with_reducible show wpList _ _ _ (Oper.mk _ _ _ _ _ (some _) :: _) _ _); refine wpList_guarded (by rfl) ?_)
          | (go_at_call 11; (with_reducible show Calls _ _ _ wr _); refine (HZ.out.1.2.1.read k).mono ?_; rintro e w' ⟨rfl, h⟩; have HA := Lib.hid (HZ.out.1.quiet h); have HRA := Lib.hid h; clear h; generalize w' = wa at *; simp only [HZ.out.2.2.1])
          | ((with_reducible show wpList _ _ _ (Oper.mk _ (Op.alloc 33) _ _ _ _ :: _) _ _); refine wpList_allocA 33 rfl rfl (bcells zsec) zeroSec ?_)
          | ((with_reducible show wpList _ _ _ (Oper.mk _ (Op.store 33 (Operand.tmp 12) _) _ _ _ _ :: _) _ _); (with_reducible show wpList _ _ _ _ _ (World.alloc wa _)); refine wpList_storeA 33 rfl _ _ rfl wa.heap.size 0 (bcells x) (by rfl) (by rfl) (th_fresh wa _) (lenSec _) (bcells_one _) ?_; have HB := Lib.hid (HA.out.fresh x); have HRB := Lib.hid (HRA.out.trans (kp_fresh wa (bcells zsec) (bcells x) 33) (fun _ _ h => h)); generalize hwb : (wa.alloc (.cells (bcells zsec).toArray 33)).setCells wa.heap.size 0 (bcells x) = wb at *; clear hwb; have hcb := vals_cell (HB.out.1.var (r9, o44 vals) (.tail _ (.tail _ (.head _)))) k _ HZ.out.2.2.2.2.1))
        have HC := Lib.hid (HB.out.quiet ((Kp.refl _ wb).drew))
        have HRC := Lib.hid (HRB.out.trans ((Kp.refl _ wb).drew) (fun _ _ h => h))
        refine wp_region_still_tail 8 (by kernel_rfl) (by kernel_rfl) ?_
        simp only [List.take_succ_cons, List.take_zero, List.drop_succ_cons, List.drop_zero]
        change wpStill _ _ wb.drew _ _ _
        refine stillG_loadA 33 _ (by rfl) _ rfl wa.heap.size 0 (by rfl) (bcells x) (HC.out.1.rd (.head _)) Try.underlying33 rfl (lenSec _) ?_
        still_step
        still_step
        still_step
        refine stillG_loadA 33 _ (by rfl) _ rfl r8 (k * 64) (by rfl) (bcells s) (sure_range (HC.out.1.var (r8, o42 sure) (.tail _ (.head _))) k s HZ.out.2.2.2.1) Try.underlying33 rfl (lenSec _) ?_
        still_step
        still_step
        still_step
        refine wpStill_nil ?_
        change wpList _ _ _ _ _ wb.drew
        clear hcb
        generalize wb.drew = wc at *
        go_wp2_with (first
          | ((with_reducible show wpList _ _ _ (Oper.mk _ _ _ _ _ (some _) :: _) _ _); refine wpList_guarded (by rfl) ?_)
          | (go_at_call 19; (with_reducible show Calls _ _ _ wc _); refine (possible_c wc x e s g c2 t HZ.out.2.2.2.2.2.1 (fun j u hu => range_kp HRC.out (HZ.out.2.2.2.2.2.2.2.1 j u hu)) (by have := HZ.out.2.2.2.2.2.2.2.2.2.2; omega) HZ.out.2.2.2.2.2.2.2.2.2.1).mono ?_; rintro e1 wd ⟨rfl, h⟩; have HD := Lib.hid (HC.out.quiet h); have HRD := Lib.hid (HRC.out.trans h (fun _ _ h => h)); clear h)
          | (go_at_call 11; (with_reducible show Calls _ _ _ wd _); refine (HD.out.1.read k).mono ?_; rintro e1 w' ⟨rfl, h⟩; have HE := Lib.hid (HD.out.quiet h); have HRE := Lib.hid (HRD.out.trans h (fun _ _ h => h)); clear h; generalize w' = we at *; simp only [HZ.out.2.2.2.2.2.2.1])
          | ((with_reducible show wpList _ _ _ (Oper.mk _ (Op.alloc 33) _ _ _ _ :: _) _ _); refine wpList_allocA 33 rfl rfl (bcells zsec) zeroSec ?_)
          | ((with_reducible show wpList _ _ _ (Oper.mk _ (Op.store 33 (Operand.tmp 14) _) _ _ _ _ :: _) _ _); (with_reducible show wpList _ _ _ _ _ (World.alloc we _)); refine wpList_storeA 33 rfl _ _ rfl we.heap.size 0 (bcells last) (by rfl) (by rfl) (th_fresh we _) (lenSec _) (bcells_one _) ?_; have HF := Lib.hid (HE.out.fresh last); have HRF := Lib.hid (HRE.out.trans (kp_fresh we (bcells zsec) (bcells last) 33) (fun _ _ h => h)); generalize hwf : (we.alloc (.cells (bcells zsec).toArray 33)).setCells we.heap.size 0 (bcells last) = wf at *; clear hwf; have hcf := vals_cell (HF.out.1.var (r9, o44 vals) (.tail _ (.tail _ (.tail _ (.head _))))) k _ HZ.out.2.2.2.2.1))
        have HG := Lib.hid (HF.out.quiet ((Kp.refl _ wf).drew))
        have HRG := Lib.hid (range_kp (HRF.out.trans ((Kp.refl _ wf).drew) (fun _ _ h => h)) (HZ.out.2.2.2.2.2.2.2.1 q last HZ.out.2.2.2.2.2.2.2.2.1))
        refine wp_region_still_tail 15 (by kernel_rfl) (by kernel_rfl) ?_
        simp only [List.take_succ_cons, List.take_zero, List.drop_succ_cons, List.drop_zero]
        change wpStill _ _ wf.drew _ _ _
        still_step
        still_step
        still_step
        refine stillG_loadA 33 _ (by rfl) _ rfl we.heap.size 0 (by rfl) (bcells last) (HG.out.1.rd (.head _)) Try.underlying33 rfl (lenSec _) ?_
        still_step
        still_step
        still_step
        still_step
        still_step
        still_step
        still_step
        still_step
        still_step
        refine stillG_loadA 33 _ (by rfl) _ rfl g (q * 64) (by rfl) (bcells last) HRG.out Try.underlying33 rfl (lenSec _) ?_
        refine stillG_neS (by rfl) _ _ rfl last last (by rfl) (by rfl) ?_
        simp only [decide_true, Bool.not_true]
        refine wpStill_nil ?_
        change wpList _ _ _ _ _ wf.drew
        clear hcf
        generalize wf.drew = wh at *
        go_wp2
        go_roundw
        case rel => exact ⟨k + 1, by simp, HZ.out.2.1, HG.out.sub (fun p hp => .tail _ (.tail _ hp))⟩
        case measure => exact measure_next HZ.out.2.1 _ _ rfl rfl
    · have HZ := Lib.hid hS
      have hk0 : ¬ (k : Int) < 16 := by omega
      clear hS hlt hk
      go_wp2_with (first
        | (go_at_call 8; refine (sanity_c _).mono ?_; rintro e we ⟨rfl, h⟩; have HE := Lib.hid (HZ.out.1.kp.trans h (fun _ _ h => h)); clear h))
      go_ret
      exact ⟨rfl, HE.out⟩

end Go.Proofs.Ytopeelclhpjngaa
