/- DiskKeepsWhatIsSure returns true for every input, and each argument reads behind the call as it read before. No condition. -/
import Derived.Test.YtopeelclhpjngaaLawQ
import Derived.Test.YtopeelclhpjngaaOpen
attribute [local go_sem ↓] Go.wp_at_zero Go.wp_at_succ
namespace Go.Proofs.Ytopeelclhpjngaa
set_option linter.unusedSimpArgs false
set_option linter.unusedVariables false
open Go Go.ChangeMaps Go.RowKit Go.Proofs Go.ChangeShapes Go.WideShapes Go.ChangeAt

set_option maxRecDepth 100000 in
set_option maxHeartbeats 4000000 in
theorem keeps_all (w : World) (lv kv : Value) (xs : List RefOp) (ks : List Int) (n : Nat) (hn : n ≤ 255) (hxs : OpsIn w lv xs) (hks : Ints w kv ks) :
    Calls Try.prog 4 #[lv, .int .u8 n, kv] w fun e w' => e = .returned (.bool true) ∧ Kp (fun _ => False) w w' := by
  by_cases hl : xs.length ≤ 40
  · by_cases hk : ks.length ≤ 20
    · exact keeps_c w lv kv xs ks n hn hxs hks hl hk
    · obtain ⟨pl, cl, rfl⟩ := hxs.len
      obtain ⟨pk, ck, rfl⟩ := hks.len
      have h40 : ¬ (40 : Int) < (xs.length : Int) := by omega
      have h20 : (20 : Int) < (ks.length : Int) := by omega
      clear hxs hks hl hk hn
      go_enter Try.func4, Try.ntmps4
      go_wp2_with (first
        | ((with_reducible show wpList _ _ _ (Oper.mk _ _ _ _ _ (some _) :: _) _ _); refine wpList_guarded (by rfl) ?_)
        | (go_at_call 8; refine (sanity_c w).mono ?_; rintro e w9 ⟨rfl, h⟩; have H9 := Lib.hid h; clear h))
      go_ret
      exact ⟨rfl, H9.out⟩
  · obtain ⟨pl, cl, rfl⟩ := hxs.len
    obtain ⟨pk, ck, rfl⟩ := hks.len
    have h40 : (40 : Int) < (xs.length : Int) := by omega
    clear hxs hks hl hn
    go_enter Try.func4, Try.ntmps4
    go_wp2_with (first
      | ((with_reducible show wpList _ _ _ (Oper.mk _ _ _ _ _ (some _) :: _) _ _); refine wpList_guarded (by rfl) ?_)
      | (go_at_call 8; refine (sanity_c w).mono ?_; rintro e w9 ⟨rfl, h⟩; have H9 := Lib.hid h; clear h))
    go_ret
    exact ⟨rfl, H9.out⟩

set_option maxRecDepth 100000 in
theorem keeps_lifted (os : Os) (started : os.Started) (H : Type) (enc : TypeId × Value → H) :
    ReturnsInHanded {} Try.checked os 4 .any (Rows.diskKeepsWhatIsSureSpec.pre6 enc Try.prog Try.f4 Rows.diskKeepsWhatIsSureRow.domain false) (Rows.diskKeepsWhatIsSureSpec.post enc Try.prog Try.f4 false true false false) := by
  refine returnsInHanded_of_change (C := Try.checked) own started (by kernel_rfl) Try.func4
    (ChangeSpec.witness6 (enc := enc) (C := Try.checked) false ⟨#[], #[.slice none 0 0, .int .u8 0, .slice none 0 0], []⟩ 8 (by kernel_rfl) (by kernel_rfl) (by kernel_rfl) (by kernel_rfl)) ?_
  intro W base args ds gs before hval0 hW hcnd _
  have hval : ∀ (j : Nat) t v, Try.f4.params[j]? = some t → args[j]? = some v → Value.okWide Try.prog W .any base t v := hval0
  have hW' := hW
  obtain ⟨p, q, hA0, hV, rfl, hfz, hnd⟩ := hW
  have hA : DataW.TrodAll enc Try.prog W 0 (fun _ => true) true Try.f4.params.toList args.toList ds p := hA0
  rw [Try.params4] at hA hval
  obtain ⟨v0, vs0, d0, ds0, p0, q0, hargs, rfl, rfl, h0, r0⟩ := trodAll_cons hA
  obtain ⟨v1, vs1, d1, ds1, p1, q1, rfl, rfl, rfl, h1, r1⟩ := trodAll_cons r0
  obtain ⟨v2, vs2, d2, ds2, p2, q2, rfl, rfl, rfl, h2, r2⟩ := trodAll_cons r1
  obtain ⟨rfl, rfl, rfl⟩ := trodAll_nil r2
  obtain rfl : args = #[v0, v1, v2] := by cases args; simp_all
  obtain ⟨rfl, rfl⟩ := trodVars_none hV
  obtain ⟨a0, len0, cap0, rfl⟩ := okWide_slice Try.underlying22 (hval 0 22 v0 rfl rfl)
  obtain ⟨a2, len2, cap2, rfl⟩ := okWide_slice Try.underlying41 (hval 2 41 v2 rfl rfl)
  have k0 := h0
  have k2 := h2
  have lt0 : ∀ x ∈ p0, x.block < W.heap.size := by obtain ⟨m, hm⟩ := k0; exact DataW.trod_lt m _ _ _ hm
  have lt2 : ∀ x ∈ p2, x.block < W.heap.size := by obtain ⟨m, hm⟩ := k2; exact DataW.trod_lt m _ _ _ hm
  obtain ⟨xs, w0⟩ : ∃ xs, OpsIn W (.slice a0 len0 cap0) xs := by
    obtain ⟨fuel, hf⟩ := h0
    obtain ⟨v, xs, e, ho⟩ := open_ops hf
    simp [Value.cells] at e
    exact ⟨xs, e ▸ ho⟩
  obtain ⟨ks, w2⟩ : ∃ ks, Ints W (.slice a2 len2 cap2) ks := by
    obtain ⟨fuel, hf⟩ := h2
    obtain ⟨v, xs, e, ho⟩ := open_nums hf
    simp [Value.cells] at e
    exact ⟨xs, e ▸ ho⟩
  obtain ⟨a1, rfl, rfl, rfl, w1⟩ := open_int Try.underlying5 (hval 1 5 v1 rfl rfl) h1
  clear hA0 hval0
  have hb := bounds_u8 w1
  obtain ⟨n, rfl⟩ := Int.eq_ofNat_of_zero_le hb.1
  refine (keeps_all W _ _ xs ks n (by omega) w0 w2).mono fun e W' ⟨he, hk⟩ => ?_
  have bel := hk.below
  subst he
  exact ⟨_, rfl, _, _, _, [], _, [], hW', trodAll_mk1 (shut_bool Try.underlying4 _), (trodAll_cons_mk (Below.trod laidOut (by kernel_rfl) (of_decide_eq_true (by kernel_rfl)) k0 bel lt0) (trodAll_cons_mk (shut_int Try.underlying5 w1) (trodAll_cons_mk (Below.trod laidOut (by kernel_rfl) (of_decide_eq_true (by kernel_rfl)) k2 bel lt2) trodAll_mk0))), rfl, bel.frame _, fun h => by cases h⟩

/-- ████ THE STATEMENT ████ -/
theorem diskKeepsWhatIsSure_proved : Rows.DiskKeepsWhatIsSureSaid :=
  OpenClaim.holds_of_wide 4 Try.f4 rfl rfl rfl rfl rfl rfl rfl ⟨rfl, rfl, rfl, rfl, rfl⟩ rfl rfl rfl rfl rfl (by kernel_rfl) Try.func4 (by kernel_rfl)
    (of_decide_eq_true (by kernel_rfl)) (by unfold Func.isWrapper; rw [if_neg (of_decide_eq_false (by kernel_rfl))]; exact ⟨rfl, rfl⟩)
    (fun os started H enc _ => keeps_lifted os started H enc)

end Go.Proofs.Ytopeelclhpjngaa
