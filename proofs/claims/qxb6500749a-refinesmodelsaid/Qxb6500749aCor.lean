import Derived.Test.Qxb6500749aBan
namespace Go.Proofs.Qxb6500749a
open Go.RowKit
attribute [local go_sem] put_size put_cell_same put_cell_ne put_frozen_same put_frozen_ne put_setCell_same put_setCell_ne put_drew
attribute [local go_sem] drewN_setCell drewN_alloc drewN_put
/-! ### A copy of the core reaches its cells -/
structure CR (w : World) (pb o bb base : Nat) (pv : Value) : Prop where
  c0 : w.cell? ⟨pb, o, none⟩ = some (.pointer (some ⟨bb, 0, none⟩))
  c1 : w.cell? ⟨pb, o + 1, none⟩ = some (.int .i64 (base : Nat))
  c2 : w.cell? ⟨pb, o + 2, none⟩ = some pv
set_option maxRecDepth 100000 in
theorem reg_any (pb o bb cb base : Nat) (n : Nat) (hn : n < 16) (hb : base ≤ 18) (fv pv : Value) (B : BD) (w : World) (hc : CR w pb o bb base pv) (h : BR w bb cb fv B) :
    Calls Try.prog 43 #[.pointer (some ⟨pb, o, none⟩), .int .i64 (n : Nat)] w fun e w' => e = .returned (.int .u32 (B.get (base + n))) ∧ Below w.heap.size w w' := by
  obtain ⟨c0, c1, _⟩ := hc
  have hd : BR w.drew bb cb fv B := ⟨h.blk, h.cel, h.sl, h.ok, h.len, h.now⟩
  have HG := hid_of (get_any bb cb (base + n) (by omega) fv B w.drew hd)
  have hcast : (((base + n : Nat)) : Int) = (base : Nat) + ((n : Nat) : Int) := by omega
  rw [hcast] at HG
  have hwr : IntKind.i64.wrap (((base : Nat) : Int) + ((n : Nat) : Int)) = (base : Nat) + ((n : Nat) : Int) := by simp [IntKind.wrap, IntKind.bits, IntKind.signed]; omega
  clear h hd hcast
  go_enter Try.func43, Try.ntmps43
  go_upto_region 1 with fail
  refine wp_region_qtail 10 mixed (by kernel_rfl) ?_
  simp only [List.take_succ_cons, List.take_zero, List.drop_succ_cons, List.drop_zero]
  repeat (go_big_quiet_step (fail))
  refine wpQuiet_nil ?_
  go_wp2_with fail
  refine HG.out.mono ?_
  rintro e w1 ⟨rfl, hb1⟩
  have HB : Hid (Below w.heap.size w w1) := ⟨hb1.os, hb1.tape, hb1.output, hb1.size, hb1.block⟩
  clear HG hb1 c0 c1
  go_wp2_with fail
  go_ret
  exact ⟨rfl, HB.out⟩
set_option maxRecDepth 100000 in
theorem pc_any (pb o bb cb base : Nat) (hb : base ≤ 18) (fv pv : Value) (B : BD) (w : World) (hc : CR w pb o bb base pv) (h : BR w bb cb fv B) :
    Calls Try.prog 42 #[.pointer (some ⟨pb, o, none⟩)] w fun e w' => e = .returned (.int .u32 (B.get (base + 16))) ∧ Below w.heap.size w w' := by
  obtain ⟨c0, c1, _⟩ := hc
  have hd : BR w.drew bb cb fv B := ⟨h.blk, h.cel, h.sl, h.ok, h.len, h.now⟩
  have HG := hid_of (get_any bb cb (base + 16) (by omega) fv B w.drew hd)
  have hcast : (((base + 16 : Nat)) : Int) = (base : Nat) + 16 := by omega
  rw [hcast] at HG
  have hwr : IntKind.i64.wrap (((base : Nat) : Int) + 16) = (base : Nat) + 16 := by simp [IntKind.wrap, IntKind.bits, IntKind.signed]; omega
  clear h hd hcast
  go_enter Try.func42, Try.ntmps42
  go_upto_region 1 with fail
  refine wp_region_qtail 9 mixed (by kernel_rfl) ?_
  simp only [List.take_succ_cons, List.take_zero, List.drop_succ_cons, List.drop_zero]
  repeat (go_big_quiet_step (fail))
  refine wpQuiet_nil ?_
  go_wp2_with fail
  refine HG.out.mono ?_
  rintro e w1 ⟨rfl, hb1⟩
  have HB : Hid (Below w.heap.size w w1) := ⟨hb1.os, hb1.tape, hb1.output, hb1.size, hb1.block⟩
  clear HG hb1 c0 c1
  go_wp2_with fail
  go_ret
  exact ⟨rfl, HB.out⟩
set_option maxRecDepth 100000 in
theorem mode_any (pb o bb cb base : Nat) (hb : base ≤ 18) (fv pv : Value) (B : BD) (w : World) (hc : CR w pb o bb base pv) (h : BR w bb cb fv B) :
    Calls Try.prog 75 #[.pointer (some ⟨pb, o, none⟩)] w fun e w' => e = .returned (.int .u32 (B.get (base + 17))) ∧ Below w.heap.size w w' := by
  obtain ⟨c0, c1, _⟩ := hc
  have hd : BR w.drew bb cb fv B := ⟨h.blk, h.cel, h.sl, h.ok, h.len, h.now⟩
  have HG := hid_of (get_any bb cb (base + 17) (by omega) fv B w.drew hd)
  have hcast : (((base + 17 : Nat)) : Int) = (base : Nat) + 17 := by omega
  rw [hcast] at HG
  have hwr : IntKind.i64.wrap (((base : Nat) : Int) + 17) = (base : Nat) + 17 := by simp [IntKind.wrap, IntKind.bits, IntKind.signed]; omega
  clear h hd hcast
  go_enter Try.func75, Try.ntmps75
  go_upto_region 1 with fail
  refine wp_region_qtail 9 mixed (by kernel_rfl) ?_
  simp only [List.take_succ_cons, List.take_zero, List.drop_succ_cons, List.drop_zero]
  repeat (go_big_quiet_step (fail))
  refine wpQuiet_nil ?_
  go_wp2_with fail
  refine HG.out.mono ?_
  rintro e w1 ⟨rfl, hb1⟩
  have HB : Hid (Below w.heap.size w w1) := ⟨hb1.os, hb1.tape, hb1.output, hb1.size, hb1.block⟩
  clear HG hb1 c0 c1
  go_wp2_with fail
  go_ret
  exact ⟨rfl, HB.out⟩
set_option maxRecDepth 100000 in
theorem setReg_any (pb o bb cb base : Nat) (n : Nat) (hn : n < 16) (hb : base ≤ 18) (fv pv : Value) (B : BD) (v : Int) (w : World) (hc : CR w pb o bb base pv) (h : BR w bb cb fv B) :
    Calls Try.prog 83 #[.pointer (some ⟨pb, o, none⟩), .int .i64 (n : Nat), .int .u32 v] w fun e w' => e = .returned (.tuple #[]) ∧ ∃ w0, Below w.heap.size w w0 ∧ w' = put w0 cb (encK (B.set (base + n) v).c) 30 := by
  obtain ⟨c0, c1, _⟩ := hc
  have hd : BR w.drew bb cb fv B := ⟨h.blk, h.cel, h.sl, h.ok, h.len, h.now⟩
  have HG := hid_of (bset_any bb cb (base + n) (by omega) fv B v w.drew hd)
  have hcast : (((base + n : Nat)) : Int) = (base : Nat) + ((n : Nat) : Int) := by omega
  rw [hcast] at HG
  have hwr : IntKind.i64.wrap (((base : Nat) : Int) + ((n : Nat) : Int)) = (base : Nat) + ((n : Nat) : Int) := by simp [IntKind.wrap, IntKind.bits, IntKind.signed]; omega
  clear h hd hcast
  go_enter Try.func83, Try.ntmps83
  go_upto_region 0 with fail
  refine wp_region_qtail 11 mixed (by kernel_rfl) ?_
  simp only [List.take_succ_cons, List.take_zero, List.drop_succ_cons, List.drop_zero]
  repeat (go_big_quiet_step (fail))
  refine wpQuiet_nil ?_
  go_wp2_with fail
  refine HG.out.mono ?_
  rintro e w1 ⟨rfl, w0, hb1, hw1⟩
  have HB : Hid (Below w.heap.size w w0) := ⟨hb1.os, hb1.tape, hb1.output, hb1.size, hb1.block⟩
  have HW := hid_of hw1
  clear HG hb1 c0 c1 hw1
  go_wp2_with fail
  exact bodyPost_end (v := .tuple #[]) (results_none rfl _ _ _) rfl ⟨rfl, w0, HB.out, HW.out⟩
set_option maxRecDepth 100000 in
theorem setPC_any (pb o bb cb base : Nat) (hb : base ≤ 18) (fv pv : Value) (B : BD) (v : Int) (w : World) (hc : CR w pb o bb base pv) (h : BR w bb cb fv B) :
    Calls Try.prog 89 #[.pointer (some ⟨pb, o, none⟩), .int .u32 v] w fun e w' => e = .returned (.tuple #[]) ∧ ∃ w0, Below w.heap.size w w0 ∧ w' = put w0 cb (encK (B.set (base + 16) v).c) 30 := by
  obtain ⟨c0, c1, _⟩ := hc
  have hd : BR w.drew bb cb fv B := ⟨h.blk, h.cel, h.sl, h.ok, h.len, h.now⟩
  have HG := hid_of (bset_any bb cb (base + 16) (by omega) fv B v w.drew hd)
  have hcast : (((base + 16 : Nat)) : Int) = (base : Nat) + 16 := by omega
  rw [hcast] at HG
  have hwr : IntKind.i64.wrap (((base : Nat) : Int) + 16) = (base : Nat) + 16 := by simp [IntKind.wrap, IntKind.bits, IntKind.signed]; omega
  clear h hd hcast
  go_enter Try.func89, Try.ntmps89
  go_upto_region 0 with fail
  refine wp_region_qtail 10 mixed (by kernel_rfl) ?_
  simp only [List.take_succ_cons, List.take_zero, List.drop_succ_cons, List.drop_zero]
  repeat (go_big_quiet_step (fail))
  refine wpQuiet_nil ?_
  go_wp2_with fail
  refine HG.out.mono ?_
  rintro e w1 ⟨rfl, w0, hb1, hw1⟩
  have HB : Hid (Below w.heap.size w w0) := ⟨hb1.os, hb1.tape, hb1.output, hb1.size, hb1.block⟩
  have HW := hid_of hw1
  clear HG hb1 c0 c1 hw1
  go_wp2_with fail
  exact bodyPost_end (v := .tuple #[]) (results_none rfl _ _ _) rfl ⟨rfl, w0, HB.out, HW.out⟩
set_option maxRecDepth 100000 in
theorem setMode_any (pb o bb cb base : Nat) (hb : base ≤ 18) (fv pv : Value) (B : BD) (v : Int) (w : World) (hc : CR w pb o bb base pv) (h : BR w bb cb fv B) :
    Calls Try.prog 84 #[.pointer (some ⟨pb, o, none⟩), .int .u32 v] w fun e w' => e = .returned (.tuple #[]) ∧ ∃ w0, Below w.heap.size w w0 ∧ w' = put w0 cb (encK (B.set (base + 17) v).c) 30 := by
  obtain ⟨c0, c1, _⟩ := hc
  have hd : BR w.drew bb cb fv B := ⟨h.blk, h.cel, h.sl, h.ok, h.len, h.now⟩
  have HG := hid_of (bset_any bb cb (base + 17) (by omega) fv B v w.drew hd)
  have hcast : (((base + 17 : Nat)) : Int) = (base : Nat) + 17 := by omega
  rw [hcast] at HG
  have hwr : IntKind.i64.wrap (((base : Nat) : Int) + 17) = (base : Nat) + 17 := by simp [IntKind.wrap, IntKind.bits, IntKind.signed]; omega
  clear h hd hcast
  go_enter Try.func84, Try.ntmps84
  go_upto_region 0 with fail
  refine wp_region_qtail 10 mixed (by kernel_rfl) ?_
  simp only [List.take_succ_cons, List.take_zero, List.drop_succ_cons, List.drop_zero]
  repeat (go_big_quiet_step (fail))
  refine wpQuiet_nil ?_
  go_wp2_with fail
  refine HG.out.mono ?_
  rintro e w1 ⟨rfl, w0, hb1, hw1⟩
  have HB : Hid (Below w.heap.size w w0) := ⟨hb1.os, hb1.tape, hb1.output, hb1.size, hb1.block⟩
  have HW := hid_of hw1
  clear HG hb1 c0 c1 hw1
  go_wp2_with fail
  exact bodyPost_end (v := .tuple #[]) (results_none rfl _ _ _) rfl ⟨rfl, w0, HB.out, HW.out⟩
end Go.Proofs.Qxb6500749a
