import Derived.Test.Qxb6500750aDoorRun
namespace Go.Proofs.Qxb6500750aDoor
open Go.RowKit
theorem law5_any (a : Option Addr) (n c : Nat) (s : Nat → OpD) (w : World) (hs : Scr w a n s) (hG : Glb own0 w) :
    Calls Tryd.prog 5 #[.slice a n c] w fun e w' => e = .returned (.bool true) ∧ Below w.heap.size w w' := by
  by_cases hn : n ≤ 65536
  · have HRA := hid_of (runAudit_any a n c s hn w hs hG)
    clear hs hG
    go_enter Tryd.func5, Tryd.ntmps5
    go_wp2_with (go_at_call 11; refine (small_yes _ _ _ hn _).mono ?_; rintro e w' ⟨rfl, hw'⟩; obtain rfl := hw'.symm)
    refine HRA.out.mono ?_
    rintro e w1 ⟨ab, own', xb, pbs, σ, B, acc, rfl, hAI, hJ, _, hx⟩
    have hc := hAI.bk.blk.cell 38
    rw [ag_f0, hJ.on.f0] at hc
    have HB := hid_of (below_of_ext hx)
    clear hAI hJ hx HRA
    go_wp2_with fail
    go_ret
    exact ⟨rfl, HB.out⟩
  · clear hs hG
    go_enter Tryd.func5, Tryd.ntmps5
    go_wp2_with (go_at_call 11; refine (small_no _ _ _ (by omega) _).mono ?_; rintro e w' ⟨rfl, hw'⟩; obtain rfl := hw'.symm)
    go_ret
    exact ⟨rfl, Below.refl _ _⟩
theorem law6_any (a : Option Addr) (n c : Nat) (s : Nat → OpD) (w : World) (hs : Scr w a n s) (hG : Glb own0 w) :
    Calls Tryd.prog 6 #[.slice a n c] w fun e w' => e = .returned (.bool true) ∧ Below w.heap.size w w' := by
  by_cases hn : n ≤ 65536
  · have HRA := hid_of (runAudit_any a n c s hn w hs hG)
    clear hs hG
    go_enter Tryd.func6, Tryd.ntmps6
    go_wp2_with (go_at_call 11; refine (small_yes _ _ _ hn _).mono ?_; rintro e w' ⟨rfl, hw'⟩; obtain rfl := hw'.symm)
    refine HRA.out.mono ?_
    rintro e w1 ⟨ab, own', xb, pbs, σ, B, acc, rfl, hAI, hJ, _, hx⟩
    have hc := hAI.bk.blk.cell 39
    rw [ag_f1, hJ.on.f1] at hc
    have HB := hid_of (below_of_ext hx)
    clear hAI hJ hx HRA
    go_wp2_with fail
    go_ret
    exact ⟨rfl, HB.out⟩
  · clear hs hG
    go_enter Tryd.func6, Tryd.ntmps6
    go_wp2_with (go_at_call 11; refine (small_no _ _ _ (by omega) _).mono ?_; rintro e w' ⟨rfl, hw'⟩; obtain rfl := hw'.symm)
    go_ret
    exact ⟨rfl, Below.refl _ _⟩
theorem law7_any (a : Option Addr) (n c : Nat) (s : Nat → OpD) (w : World) (hs : Scr w a n s) (hG : Glb own0 w) :
    Calls Tryd.prog 7 #[.slice a n c] w fun e w' => e = .returned (.bool true) ∧ Below w.heap.size w w' := by
  by_cases hn : n ≤ 65536
  · have HRA := hid_of (runAudit_any a n c s hn w hs hG)
    clear hs hG
    go_enter Tryd.func7, Tryd.ntmps7
    go_wp2_with (go_at_call 11; refine (small_yes _ _ _ hn _).mono ?_; rintro e w' ⟨rfl, hw'⟩; obtain rfl := hw'.symm)
    refine HRA.out.mono ?_
    rintro e w1 ⟨ab, own', xb, pbs, σ, B, acc, rfl, hAI, hJ, _, hx⟩
    have hc := hAI.bk.blk.cell 40
    rw [ag_f2, hJ.on.f2] at hc
    have HB := hid_of (below_of_ext hx)
    clear hAI hJ hx HRA
    go_wp2_with fail
    go_ret
    exact ⟨rfl, HB.out⟩
  · clear hs hG
    go_enter Tryd.func7, Tryd.ntmps7
    go_wp2_with (go_at_call 11; refine (small_no _ _ _ (by omega) _).mono ?_; rintro e w' ⟨rfl, hw'⟩; obtain rfl := hw'.symm)
    go_ret
    exact ⟨rfl, Below.refl _ _⟩
theorem law8_any (a : Option Addr) (n c : Nat) (s : Nat → OpD) (w : World) (hs : Scr w a n s) (hG : Glb own0 w) :
    Calls Tryd.prog 8 #[.slice a n c] w fun e w' => e = .returned (.bool true) ∧ Below w.heap.size w w' := by
  by_cases hn : n ≤ 65536
  · have HRA := hid_of (runAudit_any a n c s hn w hs hG)
    clear hs hG
    go_enter Tryd.func8, Tryd.ntmps8
    go_wp2_with (go_at_call 11; refine (small_yes _ _ _ hn _).mono ?_; rintro e w' ⟨rfl, hw'⟩; obtain rfl := hw'.symm)
    refine HRA.out.mono ?_
    rintro e w1 ⟨ab, own', xb, pbs, σ, B, acc, rfl, hAI, hJ, _, hx⟩
    have hc := hAI.bk.blk.cell 41
    rw [ag_f3, hJ.on.f3] at hc
    have HB := hid_of (below_of_ext hx)
    clear hAI hJ hx HRA
    go_wp2_with fail
    go_ret
    exact ⟨rfl, HB.out⟩
  · clear hs hG
    go_enter Tryd.func8, Tryd.ntmps8
    go_wp2_with (go_at_call 11; refine (small_no _ _ _ (by omega) _).mono ?_; rintro e w' ⟨rfl, hw'⟩; obtain rfl := hw'.symm)
    go_ret
    exact ⟨rfl, Below.refl _ _⟩
end Go.Proofs.Qxb6500750aDoor
