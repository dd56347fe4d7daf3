import Derived.Test.Qxb6500749aExa
import Derived.Test.Qxb6500749aAwt
namespace Go.Proofs.Qxb6500749a
open Go.RowKit
attribute [local go_sem] put_size put_cell_same put_cell_ne put_frozen_same put_frozen_ne put_setCell_same put_setCell_ne put_drew
attribute [local go_sem] drewN_setCell drewN_alloc drewN_put
/-! ### One cycle of a copy -/
theorem and_three (a : Int) (h : W32 a) : bits BinOp.and IntKind.u32 a 3 = a % 4 := by
  obtain ⟨x, rfl⟩ := Int.eq_ofNat_of_zero_le h.1
  rw [u32_and x 3 (by omega) h.2 (by omega) (by omega), Int.toNat_natCast]
  have : (3 : Int).toNat = 2 ^ 2 - 1 := rfl
  rw [this, Nat.and_two_pow_sub_one_eq_mod]
  omega
def coreF (prog : List Int) (base : Nat) (i : INP) (B : BD) : BD × BU :=
  if B.get (base + 17) % 4 = 2 then (B, ⟨4, 0, 0⟩) else if B.get (base + 17) % 4 = 3 then (B, ⟨8, 0, 0⟩) else if B.get (base + 17) % 4 = 1 then awaitF base (B.get (base + 17)) i B else execF prog base B
theorem ite_keep (B : BD) (c : Prop) [Decidable c] (x y : BD × BU) (hx : x.1.fs = B.fs ∧ x.1.now = B.now) (hy : y.1.fs = B.fs ∧ y.1.now = B.now) : (if c then x else y).1.fs = B.fs ∧ (if c then x else y).1.now = B.now := by
  split
  · exact hx
  · exact hy
theorem execI_keep (base : Nat) (pc : Int) (i : IN) (B : BD) : (execI base pc i B).1.fs = B.fs ∧ (execI base pc i B).1.now = B.now := by
  unfold execI
  iterate 13 refine ite_keep B _ _ _ ⟨rfl, rfl⟩ ?_
  exact ⟨rfl, rfl⟩
theorem execF_keep (prog : List Int) (base : Nat) (B : BD) : (execF prog base B).1.fs = B.fs ∧ (execF prog base B).1.now = B.now := execI_keep _ _ _ _
theorem awaitF_keep (base : Nat) (m : Int) (i : INP) (B : BD) : (awaitF base m i B).1.fs = B.fs ∧ (awaitF base m i B).1.now = B.now := by
  unfold awaitF
  repeat' split
  all_goals exact ⟨rfl, rfl⟩
theorem coreF_keep (prog : List Int) (base : Nat) (i : INP) (B : BD) : (coreF prog base i B).1.fs = B.fs ∧ (coreF prog base i B).1.now = B.now := by
  unfold coreF
  repeat' split
  all_goals first | exact ⟨rfl, rfl⟩ | exact awaitF_keep _ _ _ _ | exact execF_keep _ _ _
set_option linter.unusedVariables false in
set_option maxRecDepth 100000 in
set_option maxHeartbeats 4000000 in
theorem core_h (pb o bb cb base : Nat) (hb : base ≤ 18) (fv : Value) (a : Option Addr) (n cap : Nat) (prog : List Int) (hn : prog.length = n) (hn6 : n ≤ 64) (hpr : ∀ x ∈ prog, W32 x) (i : INP) (B : BD) (hB : B.Ok) (w : World) (hc : CR w pb o bb base (.slice a n cap)) (h : BR w bb cb fv B) (hS : Sl w (.slice a n cap) 30 1 n (prow prog)) (hpc : pb ≠ cb)
    (hm : B.get (base + 17) % 4 = 2) :
    Calls Try.prog 62 #[.pointer (some ⟨pb, o, none⟩), .agg (inpV i)] w fun e w' => e = .returned (.agg (buV (coreF prog base i B).2)) ∧ Tn w w' cb (coreF prog base i B).1.c := by
  obtain ⟨vv, ee, dd⟩ := i
  obtain ⟨W3, hW3⟩ : ∃ W3, (w.alloc (.cells #[.bool vv, .bool ee, .int .u32 dd] 112)).alloc (.cells #[.int .u32 0, .int .u32 0, .int .u32 0] 49) = W3 := ⟨_, rfl⟩
  have hY : YR w W3 pb o bb cb base fv (.slice a n cap) (w.heap.size + 1) #[.int .u32 0, .int .u32 0, .int .u32 0] B := by rw [← hW3]; exact yr_start hc h hpc _
  have hbx : Blk W3 w.heap.size #[.bool vv, .bool ee, .int .u32 dd] 112 := by
    rw [← hW3]; exact (Below.heap_alloc _ _ _ (by simp)).trans (Blk.new w _ 112)
  have hbel : Below w.heap.size w W3 := by rw [← hW3]; exact ((Below.refl _ _).alloc (Nat.le_refl _) _).alloc (by simp) _
  have hmw := hB.get (base + 17)
  have han := and_three _ hmw
  have HM := hid_of (mode_any pb o bb cb base hb fv _ B W3 hY.cr hY.br)
  obtain ⟨mode, hmode⟩ : ∃ mode, B.get (base + 17) = mode := ⟨_, rfl⟩
  rw [hmode] at han HM hmw hm
  rw [hm] at han
  have HBX := hid_of hbx
  have HBE := hid_of hbel
  have HY := hid_of hY
  have HS := hid_of hS
  have HMO := hid_of hmode
  have HMW := hid_of hmw
  have HMM := hid_of hm
  clear hbx hY hc h hpc hS hbel hmode hmw hm
  unfold inpV
  go_enter Try.func62, Try.ntmps62
  go_upto_region 1 with fail
  clear hW3
  refine wp_region_list ?_
  go_wp2_with fail
  refine HM.out.mono ?_
  rintro e w1 ⟨rfl, hb1⟩
  have HB1 := hid_of hb1
  have HY1 : Hid (YR w w1 pb o bb cb base fv (.slice a n cap) (w.heap.size + 1) #[.int .u32 0, .int .u32 0, .int .u32 0] B) := HY.out.below hb1
  have hbx1 : Blk w1 w.heap.size #[.bool vv, .bool ee, .int .u32 dd] 112 := (hb1.block _ HBX.out.lt).trans HBX.out
  have c0 : w1.cell? ⟨w.heap.size, 0, none⟩ = some (.bool vv) := hbx1.cell 0
  have c1 : w1.cell? ⟨w.heap.size, 1, none⟩ = some (.bool ee) := hbx1.cell 1
  have c2 : w1.cell? ⟨w.heap.size, 2, none⟩ = some (.int .u32 dd) := hbx1.cell 2
  clear hbx1 hb1 HM HY
  have HE : Hid (coreF prog base ⟨vv, ee, dd⟩ B = (B, ⟨4, 0, 0⟩)) := by unfold Hid coreF; rw [HMO.out, if_pos HMM.out]
  go_upto_region 5 with fail
  obtain ⟨w9, hw9, hl9⟩ := HY1.out.hr.out
  have HFIN : Hid (Tn w (put w9 (w.heap.size + 1) #[.int .u32 4, .int .u32 0, .int .u32 0] 49) cb (B).c) := by
    have := HY1.out.ret #[.int .u32 4, .int .u32 0, .int .u32 0]
    rw [hw9, put_put] at this
    exact this
  clear HY1
  subst hw9
  go_wp2_with fail
  exact bodyPost_ret (v := .agg #[.int .u32 4, .int .u32 0, .int .u32 0]) (results_cell_row (by rfl) _ _ (w.heap.size + 1) 49 _ (0, 0) _ (by rfl) (Blk.put_same hl9) Try.underlying49 rfl (by rw [size49]; rfl)) rfl ⟨by rw [HE.out]; rfl, by rw [HE.out]; exact HFIN.out⟩
set_option linter.unusedVariables false in
set_option maxRecDepth 100000 in
set_option maxHeartbeats 4000000 in
theorem core_t (pb o bb cb base : Nat) (hb : base ≤ 18) (fv : Value) (a : Option Addr) (n cap : Nat) (prog : List Int) (hn : prog.length = n) (hn6 : n ≤ 64) (hpr : ∀ x ∈ prog, W32 x) (i : INP) (B : BD) (hB : B.Ok) (w : World) (hc : CR w pb o bb base (.slice a n cap)) (h : BR w bb cb fv B) (hS : Sl w (.slice a n cap) 30 1 n (prow prog)) (hpc : pb ≠ cb)
    (hm : B.get (base + 17) % 4 = 3) :
    Calls Try.prog 62 #[.pointer (some ⟨pb, o, none⟩), .agg (inpV i)] w fun e w' => e = .returned (.agg (buV (coreF prog base i B).2)) ∧ Tn w w' cb (coreF prog base i B).1.c := by
  obtain ⟨vv, ee, dd⟩ := i
  obtain ⟨W3, hW3⟩ : ∃ W3, (w.alloc (.cells #[.bool vv, .bool ee, .int .u32 dd] 112)).alloc (.cells #[.int .u32 0, .int .u32 0, .int .u32 0] 49) = W3 := ⟨_, rfl⟩
  have hY : YR w W3 pb o bb cb base fv (.slice a n cap) (w.heap.size + 1) #[.int .u32 0, .int .u32 0, .int .u32 0] B := by rw [← hW3]; exact yr_start hc h hpc _
  have hbx : Blk W3 w.heap.size #[.bool vv, .bool ee, .int .u32 dd] 112 := by
    rw [← hW3]; exact (Below.heap_alloc _ _ _ (by simp)).trans (Blk.new w _ 112)
  have hbel : Below w.heap.size w W3 := by rw [← hW3]; exact ((Below.refl _ _).alloc (Nat.le_refl _) _).alloc (by simp) _
  have hmw := hB.get (base + 17)
  have han := and_three _ hmw
  have HM := hid_of (mode_any pb o bb cb base hb fv _ B W3 hY.cr hY.br)
  obtain ⟨mode, hmode⟩ : ∃ mode, B.get (base + 17) = mode := ⟨_, rfl⟩
  rw [hmode] at han HM hmw hm
  rw [hm] at han
  have HBX := hid_of hbx
  have HBE := hid_of hbel
  have HY := hid_of hY
  have HS := hid_of hS
  have HMO := hid_of hmode
  have HMW := hid_of hmw
  have HMM := hid_of hm
  clear hbx hY hc h hpc hS hbel hmode hmw hm
  unfold inpV
  go_enter Try.func62, Try.ntmps62
  go_upto_region 1 with fail
  clear hW3
  refine wp_region_list ?_
  go_wp2_with fail
  refine HM.out.mono ?_
  rintro e w1 ⟨rfl, hb1⟩
  have HB1 := hid_of hb1
  have HY1 : Hid (YR w w1 pb o bb cb base fv (.slice a n cap) (w.heap.size + 1) #[.int .u32 0, .int .u32 0, .int .u32 0] B) := HY.out.below hb1
  have hbx1 : Blk w1 w.heap.size #[.bool vv, .bool ee, .int .u32 dd] 112 := (hb1.block _ HBX.out.lt).trans HBX.out
  have c0 : w1.cell? ⟨w.heap.size, 0, none⟩ = some (.bool vv) := hbx1.cell 0
  have c1 : w1.cell? ⟨w.heap.size, 1, none⟩ = some (.bool ee) := hbx1.cell 1
  have c2 : w1.cell? ⟨w.heap.size, 2, none⟩ = some (.int .u32 dd) := hbx1.cell 2
  clear hbx1 hb1 HM HY
  have HE : Hid (coreF prog base ⟨vv, ee, dd⟩ B = (B, ⟨8, 0, 0⟩)) := by unfold Hid coreF; rw [HMO.out, if_neg (by rw [HMM.out]; decide), if_pos HMM.out]
  go_upto_region 7 with fail
  obtain ⟨w9, hw9, hl9⟩ := HY1.out.hr.out
  have HFIN : Hid (Tn w (put w9 (w.heap.size + 1) #[.int .u32 8, .int .u32 0, .int .u32 0] 49) cb (B).c) := by
    have := HY1.out.ret #[.int .u32 8, .int .u32 0, .int .u32 0]
    rw [hw9, put_put] at this
    exact this
  clear HY1
  subst hw9
  go_wp2_with fail
  exact bodyPost_ret (v := .agg #[.int .u32 8, .int .u32 0, .int .u32 0]) (results_cell_row (by rfl) _ _ (w.heap.size + 1) 49 _ (0, 0) _ (by rfl) (Blk.put_same hl9) Try.underlying49 rfl (by rw [size49]; rfl)) rfl ⟨by rw [HE.out]; rfl, by rw [HE.out]; exact HFIN.out⟩
set_option linter.unusedVariables false in
set_option maxRecDepth 100000 in
set_option maxHeartbeats 4000000 in
theorem core_w (pb o bb cb base : Nat) (hb : base ≤ 18) (fv : Value) (a : Option Addr) (n cap : Nat) (prog : List Int) (hn : prog.length = n) (hn6 : n ≤ 64) (hpr : ∀ x ∈ prog, W32 x) (i : INP) (B : BD) (hB : B.Ok) (w : World) (hc : CR w pb o bb base (.slice a n cap)) (h : BR w bb cb fv B) (hS : Sl w (.slice a n cap) 30 1 n (prow prog)) (hpc : pb ≠ cb)
    (hm : B.get (base + 17) % 4 = 1) :
    Calls Try.prog 62 #[.pointer (some ⟨pb, o, none⟩), .agg (inpV i)] w fun e w' => e = .returned (.agg (buV (coreF prog base i B).2)) ∧ Tn w w' cb (coreF prog base i B).1.c := by
  obtain ⟨vv, ee, dd⟩ := i
  obtain ⟨W3, hW3⟩ : ∃ W3, (w.alloc (.cells #[.bool vv, .bool ee, .int .u32 dd] 112)).alloc (.cells #[.int .u32 0, .int .u32 0, .int .u32 0] 49) = W3 := ⟨_, rfl⟩
  have hY : YR w W3 pb o bb cb base fv (.slice a n cap) (w.heap.size + 1) #[.int .u32 0, .int .u32 0, .int .u32 0] B := by rw [← hW3]; exact yr_start hc h hpc _
  have hbx : Blk W3 w.heap.size #[.bool vv, .bool ee, .int .u32 dd] 112 := by
    rw [← hW3]; exact (Below.heap_alloc _ _ _ (by simp)).trans (Blk.new w _ 112)
  have hbel : Below w.heap.size w W3 := by rw [← hW3]; exact ((Below.refl _ _).alloc (Nat.le_refl _) _).alloc (by simp) _
  have hmw := hB.get (base + 17)
  have han := and_three _ hmw
  have HM := hid_of (mode_any pb o bb cb base hb fv _ B W3 hY.cr hY.br)
  obtain ⟨mode, hmode⟩ : ∃ mode, B.get (base + 17) = mode := ⟨_, rfl⟩
  rw [hmode] at han HM hmw hm
  rw [hm] at han
  have HBX := hid_of hbx
  have HBE := hid_of hbel
  have HY := hid_of hY
  have HS := hid_of hS
  have HMO := hid_of hmode
  have HMW := hid_of hmw
  have HMM := hid_of hm
  clear hbx hY hc h hpc hS hbel hmode hmw hm
  unfold inpV
  go_enter Try.func62, Try.ntmps62
  go_upto_region 1 with fail
  clear hW3
  refine wp_region_list ?_
  go_wp2_with fail
  refine HM.out.mono ?_
  rintro e w1 ⟨rfl, hb1⟩
  have HB1 := hid_of hb1
  have HY1 : Hid (YR w w1 pb o bb cb base fv (.slice a n cap) (w.heap.size + 1) #[.int .u32 0, .int .u32 0, .int .u32 0] B) := HY.out.below hb1
  have hbx1 : Blk w1 w.heap.size #[.bool vv, .bool ee, .int .u32 dd] 112 := (hb1.block _ HBX.out.lt).trans HBX.out
  have c0 : w1.cell? ⟨w.heap.size, 0, none⟩ = some (.bool vv) := hbx1.cell 0
  have c1 : w1.cell? ⟨w.heap.size, 1, none⟩ = some (.bool ee) := hbx1.cell 1
  have c2 : w1.cell? ⟨w.heap.size, 2, none⟩ = some (.int .u32 dd) := hbx1.cell 2
  clear hbx1 hb1 HM HY
  have HE : Hid (coreF prog base ⟨vv, ee, dd⟩ B = awaitF base mode ⟨vv, ee, dd⟩ B) := by unfold Hid coreF; rw [HMO.out, if_neg (by rw [HMM.out]; decide), if_neg (by rw [HMM.out]; decide), if_pos HMM.out]
  have HC := hid_of (await_any pb o bb cb base hb fv (.slice a n cap) mode ⟨vv, ee, dd⟩ HMW.out B w1 HY1.out.cr HY1.out.br HY1.out.pc)
  obtain ⟨⟨B', bu⟩, hres⟩ : ∃ r, awaitF base mode ⟨vv, ee, dd⟩ B = r := ⟨_, rfl⟩
  have hk := awaitF_keep base mode ⟨vv, ee, dd⟩ B
  rw [hres] at HE HC hk
  clear hres
  go_wp2_with fail
  refine HC.out.mono ?_
  rintro e v4 ⟨rfl, ht4⟩
  have HY4 : Hid (YR w v4 pb o bb cb base fv (.slice a n cap) (w.heap.size + 1) #[.int .u32 0, .int .u32 0, .int .u32 0] B') := HY1.out.tset ht4 hk.1 hk.2
  clear ht4 HC HY1 hk
  obtain ⟨b1, b2, b3⟩ := bu
  unfold buV
  obtain ⟨w9, hw9, hl9⟩ := HY4.out.hr.out
  have HFIN : Hid (Tn w (put w9 (w.heap.size + 1) #[.int .u32 b1, .int .u32 b2, .int .u32 b3] 49) cb (B').c) := by
    have := HY4.out.ret #[.int .u32 b1, .int .u32 b2, .int .u32 b3]
    rw [hw9, put_put] at this
    exact this
  clear HY4
  subst hw9
  go_wp2_with fail
  exact bodyPost_ret (v := .agg #[.int .u32 b1, .int .u32 b2, .int .u32 b3]) (results_cell_row (by rfl) _ _ (w.heap.size + 1) 49 _ (0, 0) _ (by rfl) (Blk.put_same hl9) Try.underlying49 rfl (by rw [size49]; rfl)) rfl ⟨by rw [HE.out]; rfl, by rw [HE.out]; exact HFIN.out⟩
set_option linter.unusedVariables false in
set_option maxRecDepth 100000 in
set_option maxHeartbeats 4000000 in
theorem core_x (pb o bb cb base : Nat) (hb : base ≤ 18) (fv : Value) (a : Option Addr) (n cap : Nat) (prog : List Int) (hn : prog.length = n) (hn6 : n ≤ 64) (hpr : ∀ x ∈ prog, W32 x) (i : INP) (B : BD) (hB : B.Ok) (w : World) (hc : CR w pb o bb base (.slice a n cap)) (h : BR w bb cb fv B) (hS : Sl w (.slice a n cap) 30 1 n (prow prog)) (hpc : pb ≠ cb)
    (hm : B.get (base + 17) % 4 = 0) :
    Calls Try.prog 62 #[.pointer (some ⟨pb, o, none⟩), .agg (inpV i)] w fun e w' => e = .returned (.agg (buV (coreF prog base i B).2)) ∧ Tn w w' cb (coreF prog base i B).1.c := by
  obtain ⟨vv, ee, dd⟩ := i
  obtain ⟨W3, hW3⟩ : ∃ W3, (w.alloc (.cells #[.bool vv, .bool ee, .int .u32 dd] 112)).alloc (.cells #[.int .u32 0, .int .u32 0, .int .u32 0] 49) = W3 := ⟨_, rfl⟩
  have hY : YR w W3 pb o bb cb base fv (.slice a n cap) (w.heap.size + 1) #[.int .u32 0, .int .u32 0, .int .u32 0] B := by rw [← hW3]; exact yr_start hc h hpc _
  have hbx : Blk W3 w.heap.size #[.bool vv, .bool ee, .int .u32 dd] 112 := by
    rw [← hW3]; exact (Below.heap_alloc _ _ _ (by simp)).trans (Blk.new w _ 112)
  have hbel : Below w.heap.size w W3 := by rw [← hW3]; exact ((Below.refl _ _).alloc (Nat.le_refl _) _).alloc (by simp) _
  have hmw := hB.get (base + 17)
  have han := and_three _ hmw
  have HM := hid_of (mode_any pb o bb cb base hb fv _ B W3 hY.cr hY.br)
  obtain ⟨mode, hmode⟩ : ∃ mode, B.get (base + 17) = mode := ⟨_, rfl⟩
  rw [hmode] at han HM hmw hm
  rw [hm] at han
  have HBX := hid_of hbx
  have HBE := hid_of hbel
  have HY := hid_of hY
  have HS := hid_of hS
  have HMO := hid_of hmode
  have HMW := hid_of hmw
  have HMM := hid_of hm
  clear hbx hY hc h hpc hS hbel hmode hmw hm
  unfold inpV
  go_enter Try.func62, Try.ntmps62
  go_upto_region 1 with fail
  clear hW3
  refine wp_region_list ?_
  go_wp2_with fail
  refine HM.out.mono ?_
  rintro e w1 ⟨rfl, hb1⟩
  have HB1 := hid_of hb1
  have HY1 : Hid (YR w w1 pb o bb cb base fv (.slice a n cap) (w.heap.size + 1) #[.int .u32 0, .int .u32 0, .int .u32 0] B) := HY.out.below hb1
  have hbx1 : Blk w1 w.heap.size #[.bool vv, .bool ee, .int .u32 dd] 112 := (hb1.block _ HBX.out.lt).trans HBX.out
  have c0 : w1.cell? ⟨w.heap.size, 0, none⟩ = some (.bool vv) := hbx1.cell 0
  have c1 : w1.cell? ⟨w.heap.size, 1, none⟩ = some (.bool ee) := hbx1.cell 1
  have c2 : w1.cell? ⟨w.heap.size, 2, none⟩ = some (.int .u32 dd) := hbx1.cell 2
  clear hbx1 hb1 HM HY
  have HE : Hid (coreF prog base ⟨vv, ee, dd⟩ B = execF prog base B) := by unfold Hid coreF; rw [HMO.out, if_neg (by rw [HMM.out]; decide), if_neg (by rw [HMM.out]; decide), if_neg (by rw [HMM.out]; decide)]
  have HC := hid_of (exec_any pb o bb cb base hb fv a n cap prog hn hn6 hpr B hB w1 HY1.out.cr HY1.out.br (HS.out.same fun k hk => (HB1.out.block k (Nat.lt_of_lt_of_le (HS.out.lt k hk) HBE.out.size)).trans (HBE.out.block k (HS.out.lt k hk))) HY1.out.pc)
  obtain ⟨⟨B', bu⟩, hres⟩ : ∃ r, execF prog base B = r := ⟨_, rfl⟩
  have hk := execF_keep prog base B
  rw [hres] at HE HC hk
  clear hres
  go_wp2_with fail
  refine HC.out.mono ?_
  rintro e v4 ⟨rfl, ht4⟩
  have HY4 : Hid (YR w v4 pb o bb cb base fv (.slice a n cap) (w.heap.size + 1) #[.int .u32 0, .int .u32 0, .int .u32 0] B') := HY1.out.tset ht4 hk.1 hk.2
  clear ht4 HC HY1 hk
  obtain ⟨b1, b2, b3⟩ := bu
  unfold buV
  obtain ⟨w9, hw9, hl9⟩ := HY4.out.hr.out
  have HFIN : Hid (Tn w (put w9 (w.heap.size + 1) #[.int .u32 b1, .int .u32 b2, .int .u32 b3] 49) cb (B').c) := by
    have := HY4.out.ret #[.int .u32 b1, .int .u32 b2, .int .u32 b3]
    rw [hw9, put_put] at this
    exact this
  clear HY4
  subst hw9
  go_wp2_with fail
  exact bodyPost_ret (v := .agg #[.int .u32 b1, .int .u32 b2, .int .u32 b3]) (results_cell_row (by rfl) _ _ (w.heap.size + 1) 49 _ (0, 0) _ (by rfl) (Blk.put_same hl9) Try.underlying49 rfl (by rw [size49]; rfl)) rfl ⟨by rw [HE.out]; rfl, by rw [HE.out]; exact HFIN.out⟩
theorem core_any (pb o bb cb base : Nat) (hb : base ≤ 18) (fv : Value) (a : Option Addr) (n cap : Nat) (prog : List Int) (hn : prog.length = n) (hn6 : n ≤ 64) (hpr : ∀ x ∈ prog, W32 x) (i : INP) (B : BD) (hB : B.Ok) (w : World) (hc : CR w pb o bb base (.slice a n cap)) (h : BR w bb cb fv B) (hS : Sl w (.slice a n cap) 30 1 n (prow prog)) (hpc : pb ≠ cb) :
    Calls Try.prog 62 #[.pointer (some ⟨pb, o, none⟩), .agg (inpV i)] w fun e w' => e = .returned (.agg (buV (coreF prog base i B).2)) ∧ Tn w w' cb (coreF prog base i B).1.c := by
  have hm := hB.get (base + 17)
  have : B.get (base + 17) % 4 = 0 ∨ B.get (base + 17) % 4 = 1 ∨ B.get (base + 17) % 4 = 2 ∨ B.get (base + 17) % 4 = 3 := by omega
  rcases this with e | e | e | e
  · exact core_x pb o bb cb base hb fv a n cap prog hn hn6 hpr i B hB w hc h hS hpc e
  · exact core_w pb o bb cb base hb fv a n cap prog hn hn6 hpr i B hB w hc h hS hpc e
  · exact core_h pb o bb cb base hb fv a n cap prog hn hn6 hpr i B hB w hc h hS hpc e
  · exact core_t pb o bb cb base hb fv a n cap prog hn hn6 hpr i B hB w hc h hS hpc e
end Go.Proofs.Qxb6500749a
