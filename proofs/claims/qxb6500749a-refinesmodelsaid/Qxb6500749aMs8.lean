import Derived.Test.Qxb6500749aMs0
namespace Go.Proofs.Qxb6500749a
open Go.RowKit
attribute [local go_sem] put_size put_cell_same put_cell_ne put_frozen_same put_frozen_ne put_setCell_same put_setCell_ne put_drew
attribute [local go_sem] drewN_setCell drewN_alloc drewN_put
/-! ### The interpreter's step: past the end of the program -/
set_option linter.unusedVariables false in
set_option linter.unusedSimpArgs false in
set_option maxRecDepth 100000 in
set_option maxHeartbeats 16000000 in
theorem mst8 (b mm : Nat) (pa : Option Addr) (pn pcap : Nat) (ga : Option Addr) (gn gc : Nat) (prog : List Int) (M : IM) (hM : M.Ok) (hpl : prog.length = pn) (hpn : pn ≤ 64) (hh : M.hal = false) (ht : M.tra = false) (hlt : ¬ M.pc < (pn : Nat)) (w : World) (h : MR w b mm (.slice pa pn pcap) (.slice ga gn gc) prog M) :
    Calls Try.prog 15 #[.pointer (some ⟨b, 0, none⟩)] w fun e w' => e = .returned (.tuple #[]) ∧ MPost w b mm (.slice pa pn pcap) (.slice ga gn gc) prog (itI M (decF (fetF prog M.pc))) w' := by
  obtain ⟨u9, hu9, hl9⟩ := h.blk.out
  subst hu9
  have hx : fetF prog M.pc = 4294967295 := by unfold fetF; rw [hpl, if_neg hlt]
  have HIT : Hid (itI M (decF (fetF prog M.pc)) = { M with tra := true }) := by
    unfold Hid
    rw [hx]
    have : (decF 4294967295).op = 255 := rfl
    unfold itI
    rw [this]
    repeat rw [if_neg (by omega)]
  have HMV : Hid (mV (.slice pa pn pcap) mm M (.slice ga gn gc) = #[.slice pa pn pcap, .map (some mm), .int .u32 (M.r 0), .int .u32 (M.r 1), .int .u32 (M.r 2), .int .u32 (M.r 3), .int .u32 (M.r 4), .int .u32 (M.r 5), .int .u32 (M.r 6), .int .u32 (M.r 7), .int .u32 (M.r 8), .int .u32 (M.r 9), .int .u32 (M.r 10), .int .u32 (M.r 11), .int .u32 (M.r 12), .int .u32 (M.r 13), .int .u32 (M.r 14), .int .u32 (M.r 15), .int .u32 M.pc, .bool false, .bool false, .slice ga gn gc]) := by unfold Hid mV; rw [hh, ht]
  have HMR := hid_of h
  have HFIN : Hid (∀ (n : Nat) (cs' : Array Value) (M' : IM), cs' = mV (.slice pa pn pcap) mm M' (.slice ga gn gc) → M'.m = M.m → M'.log = M.log → MPost (put u9 b #[.slice pa pn pcap, .map (some mm), .int .u32 (M.r 0), .int .u32 (M.r 1), .int .u32 (M.r 2), .int .u32 (M.r 3), .int .u32 (M.r 4), .int .u32 (M.r 5), .int .u32 (M.r 6), .int .u32 (M.r 7), .int .u32 (M.r 8), .int .u32 (M.r 9), .int .u32 (M.r 10), .int .u32 (M.r 11), .int .u32 (M.r 12), .int .u32 (M.r 13), .int .u32 (M.r 14), .int .u32 (M.r 15), .int .u32 M.pc, .bool false, .bool false, .slice ga gn gc] 46) b mm (.slice pa pn pcap) (.slice ga gn gc) prog M' ((put u9 b cs' 46).drewN n)) := fun n cs' M' e1 e2 e3 => by rw [← HMV.out]; exact mrow HMR.out n cs' M' e1 e2 e3
  have HHT : Hid (M.hal = false ∧ M.tra = false) := ⟨hh, ht⟩
  obtain ⟨i12, hi12⟩ : ∃ i, (decF 4294967295).i12 = i := ⟨_, rfl⟩
  obtain ⟨i16, hi16⟩ : ∃ i, (decF 4294967295).i16 = i := ⟨_, rfl⟩
  have HS12 : Hid (∀ q : World, Calls Try.prog 37 #[.int .u32 4294967295, .int .i64 12] q fun e w' => e = .returned (.int .u32 i12) ∧ w' = q) := fun q => by rw [← hi12]; exact signed12 _ (by constructor <;> decide) q
  have HS16 : Hid (∀ q : World, Calls Try.prog 37 #[.int .u32 4294967295, .int .i64 16] q fun e w' => e = .returned (.int .u32 i16) ∧ w' = q) := fun q => by rw [← hi16]; exact signed16 _ (by constructor <;> decide) q
  rw [HMV.out]
  obtain ⟨pcv, hpcv⟩ : ∃ v, M.pc = v := ⟨_, rfl⟩
  have hpc0 := hM.pc
  rw [hpcv] at hlt hpc0 HFIN ⊢
  have HPC : Hid (M.pc = pcv) := hpcv
  have hpw3 : IntKind.i64.wrap pcv = pcv := by have := hpc0.1; have := hpc0.2; simp [IntKind.wrap, IntKind.bits, IntKind.signed]; omega
  obtain ⟨pc1, hpc1⟩ : ∃ v, (pcv + 1) % 4294967296 = v := ⟨_, rfl⟩
  clear h hx hM hpl hpn hh ht hi12 hi16 hpcv hpc0
  go_enter Try.func15, Try.ntmps15
  go_upto_region 2 with fail
  go_quiet (fail)
  go_upto_region 5 with fail
  go_quiet (fail)
  go_upto_region 6 with fail
  clear hlt hpw3
  go_wp2_with fail
  refine (HS12.out _).mono ?_
  rintro e w1 ⟨rfl, hw1⟩
  obtain rfl := hw1.symm
  clear hw1 HS12
  go_wp2_with fail
  refine (HS16.out _).mono ?_
  rintro e w1 ⟨rfl, hw1⟩
  obtain rfl := hw1.symm
  clear hw1 HS16
  go_wp2_with fail
  exact bodyPost_end (v := .tuple #[]) (results_none rfl _ _ _) rfl ⟨rfl, by rw [← HPC.out, HIT.out, HPC.out]; exact HFIN.out _ _ _ (by unfold mV; simp only [HHT.out.1, HHT.out.2, HPC.out]) rfl rfl⟩
end Go.Proofs.Qxb6500749a
