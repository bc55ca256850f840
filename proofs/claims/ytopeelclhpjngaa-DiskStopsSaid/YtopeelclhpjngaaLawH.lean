/- DiskStops returns true: whatever the lengths. -/
import Derived.Test.YtopeelclhpjngaaLawG
attribute [local go_sem ↓] Go.wp_at_zero Go.wp_at_succ
namespace Go.Proofs.Ytopeelclhpjngaa
set_option linter.unusedSimpArgs false
set_option linter.unusedVariables false
open Go Go.ChangeMaps Go.RowKit Go.Proofs

set_option maxRecDepth 100000 in
set_option maxHeartbeats 4000000 in
theorem stops_all (w : World) (lv kv : Value) (xs : List RefOp) (ks : List Int) (n : Nat) (hn : n ≤ 255) (hxs : OpsIn w lv xs) (hks : Ints w kv ks) :
    Calls Try.prog 5 #[lv, .int .u8 n, kv] w fun e w' => e = .returned (.bool true) ∧ Kp (fun _ => False) w w' := by
  by_cases hl : xs.length ≤ 40
  · by_cases hk : ks.length ≤ 20
    · exact stops_c w lv kv xs ks n hn hxs hks hl hk
    · obtain ⟨pl, cl, rfl⟩ := hxs.len
      obtain ⟨pk, ck, rfl⟩ := hks.len
      have h40 : ¬ (40 : Int) < (xs.length : Int) := by omega
      have h20 : (20 : Int) < (ks.length : Int) := by omega
      clear hxs hks hl hk hn
      go_enter Try.func5, Try.ntmps5
      go_wp2_with (first
        | ((with_reducible show wpList _ _ _ (Oper.mk _ _ _ _ _ (some _) :: _) _ _); refine wpList_guarded (by rfl) ?_)
        | (go_at_call 8; refine (sanity_c w).mono ?_; rintro e w9 ⟨rfl, h⟩; have H9 := Lib.hid h; clear h))
      go_ret
      exact ⟨rfl, H9.out⟩
  · obtain ⟨pl, cl, rfl⟩ := hxs.len
    obtain ⟨pk, ck, rfl⟩ := hks.len
    have h40 : (40 : Int) < (xs.length : Int) := by omega
    clear hxs hks hl hn
    go_enter Try.func5, Try.ntmps5
    go_wp2_with (first
      | ((with_reducible show wpList _ _ _ (Oper.mk _ _ _ _ _ (some _) :: _) _ _); refine wpList_guarded (by rfl) ?_)
      | (go_at_call 8; refine (sanity_c w).mono ?_; rintro e w9 ⟨rfl, h⟩; have H9 := Lib.hid h; clear h))
    go_ret
    exact ⟨rfl, H9.out⟩

end Go.Proofs.Ytopeelclhpjngaa
