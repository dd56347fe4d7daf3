import Derived.Test.Qxb6500749aPar
namespace Go.Proofs.Qxb6500749a
open Go.RowKit
attribute [local go_sem] put_size put_cell_same put_cell_ne put_frozen_same put_frozen_ne put_setCell_same put_setCell_ne put_drew
attribute [local go_sem] drewN_setCell drewN_alloc drewN_put
/-! ### New banks, new pairs -/
def bd0 (fs : List FD) : BD := ⟨fun _ => 0, fs, 0⟩
theorem mk55 (w : World) : (Instr.makeSlice 26 (.int .i64 55) (.int .i64 55)).run Try.prog w = .ok (.slice (some ⟨w.heap.size, 0, none⟩) 55 55) (w.alloc (.cells (encK fun _ => 0) 30)) := by kernel_rfl
set_option maxRecDepth 100000 in
theorem cnew_any (fa : Option Addr) (fn fc : Nat) (w : World) :
    Calls Try.prog 59 #[.int .i64 55, .slice fa fn fc] w fun e w' => e = .returned (.pointer (some ⟨w.heap.size + 1, 0, none⟩)) ∧ w' = (w.alloc (.cells (encK fun _ => 0) 30)).alloc (.cells (bV w.heap.size (.slice fa fn fc) 0) 125) := by
  have hm := mk55 w
  go_enter Try.func59, Try.ntmps59
  go_wp2_with fail
  go_ret
  exact ⟨rfl, rfl⟩
theorem br_new (w : World) (fv : Value) (fs : List FD) (hs : Sl w fv 33 5 fs.length (fs.flatMap frow)) (hok : ∀ f ∈ fs, f.Ok) (hl : fs.length ≤ 2) :
    BR ((w.alloc (.cells (encK fun _ => 0) 30)).alloc (.cells (bV w.heap.size fv 0) 125)) (w.heap.size + 1) w.heap.size fv (bd0 fs) := by
  have b4 : Below w.heap.size w ((w.alloc (.cells (encK fun _ => 0) 30)).alloc (.cells (bV w.heap.size fv 0) 125)) := ((Below.refl _ _).alloc (Nat.le_refl _) _).alloc (by simp) _
  refine ⟨?_, (Below.heap_alloc _ _ _ (by simp)).trans (Blk.new w _ 30), hs.same fun k hk => b4.block k (hs.lt k hk), hok, hl, ⟨Int.le_refl 0, show (0 : Int) < 4294967296 by decide⟩⟩
  have := Blk.new (w.alloc (.cells (encK fun _ => 0) 30)) (bV w.heap.size fv 0) 125
  rw [size_alloc'] at this
  exact this
set_option maxRecDepth 100000 in
theorem pnew_any (pa : Option Addr) (pn pc ub : Nat) (fa : Option Addr) (fn fc : Nat) (w : World) :
    Calls Try.prog 47 #[.slice pa pn pc, .pointer (some ⟨ub, 0, none⟩), .slice fa fn fc] w fun e w' => e = .returned (.pointer (some ⟨w.heap.size + 1 + 1, 0, none⟩)) ∧
      w' = ((w.alloc (.cells (encK fun _ => 0) 30)).alloc (.cells (bV w.heap.size (.slice fa fn fc) 0) 125)).alloc (.cells (pairV (w.heap.size + 1) ub (.slice pa pn pc) rep0) 93) := by
  have HC := hid_of (cnew_any fa fn fc w)
  go_enter Try.func47, Try.ntmps47
  go_wp2_with fail
  refine HC.out.mono ?_
  rintro e w1 ⟨rfl, hw1⟩
  have hsz : w1.heap.size = w.heap.size + 1 + 1 := by rw [hw1, size_alloc', size_alloc']
  have HW := hid_of hw1
  clear HC hw1
  go_wp2_with fail
  go_ret
  refine ⟨rfl, ?_⟩
  rw [← HW.out]
  rfl
/-! ### The DMA master as data -/
structure DD where
  st : Int
  ph : Int
  desc : Int
  fet : Nat
  buf : Int
  wai : Bool
def dmaV (bb ub : Nat) (D : DD) : Array Value := #[.pointer (some ⟨bb, 0, none⟩), .pointer (some ⟨ub, 0, none⟩), .int .u8 D.st, .int .u8 D.ph, .int .u32 D.desc, .int .i64 (D.fet : Nat), .int .u32 D.buf, .bool D.wai]
def dd0 : DD := ⟨0, 0, 0, 0, 0, false⟩
set_option maxRecDepth 100000 in
theorem dnew_any (ub : Nat) (fa : Option Addr) (fn fc : Nat) (w : World) :
    Calls Try.prog 48 #[.pointer (some ⟨ub, 0, none⟩), .slice fa fn fc] w fun e w' => e = .returned (.pointer (some ⟨w.heap.size + 1 + 1, 0, none⟩)) ∧
      w' = ((w.alloc (.cells (encK fun _ => 0) 30)).alloc (.cells (bV w.heap.size (.slice fa fn fc) 0) 125)).alloc (.cells (dmaV (w.heap.size + 1) ub dd0) 97) := by
  have HC := hid_of (cnew_any fa fn fc w)
  go_enter Try.func48, Try.ntmps48
  go_wp2_with fail
  refine HC.out.mono ?_
  rintro e w1 ⟨rfl, hw1⟩
  have hsz : w1.heap.size = w.heap.size + 1 + 1 := by rw [hw1, size_alloc', size_alloc']
  have HW := hid_of hw1
  clear HC hw1
  go_wp2_with fail
  go_ret
  refine ⟨rfl, ?_⟩
  rw [← HW.out]
  rfl
set_option maxRecDepth 100000 in
theorem status_any (db bb ub : Nat) (D : DD) (w : World) (h : Blk w db (dmaV bb ub D) 97) :
    Calls Try.prog 23 #[.pointer (some ⟨db, 0, none⟩)] w fun e w' => e = .returned (.int .u8 D.st) ∧ w' = w := by
  have c2 : w.cell? ⟨db, 2, none⟩ = some (.int .u8 D.st) := h.cell 2
  clear h
  go_enter Try.func23, Try.ntmps23
  go_wp2_with fail
  go_ret
  exact ⟨rfl, rfl⟩
def idxF (B : BD) (x : Int) : BD := (B.set 53 x).set 54 x
set_option maxRecDepth 100000 in
theorem setIdx_any (db bb cb ub : Nat) (fv : Value) (D : DD) (B : BD) (x : Int) (w : World) (h : Blk w db (dmaV bb ub D) 97) (hb : BR w bb cb fv B) :
    Calls Try.prog 60 #[.pointer (some ⟨db, 0, none⟩), .int .u32 x] w fun e w' => e = .returned (.tuple #[]) ∧ Tn w w' cb (idxF B x).c := by
  have hne : db ≠ cb := h.neT hb.cel (by decide)
  have c0 : w.cell? ⟨db, 0, none⟩ = some (.pointer (some ⟨bb, 0, none⟩)) := h.cell 0
  have HS := hid_of (bset_any bb cb 53 (by decide) fv B x w hb)
  have HB := hid_of hb
  have HH := hid_of h
  clear h hb
  go_enter Try.func60, Try.ntmps60
  go_upto_region 0 with fail
  refine wp_region_list ?_
  go_wp2_with fail
  refine HS.out.mono ?_
  rintro e w1 ⟨rfl, u1, hb1, hw1⟩
  have HB1 : Hid (BR w1 bb cb fv (B.set 53 x)) := by rw [hw1]; exact HB.out.turn hb1 53 x
  have HT1 : Hid (Tn w w1 cb (B.set 53 x).c) := by rw [hw1]; exact Tn.of_put hb1 HB.out.cel.lt _
  have hd1 : Blk w1 db (dmaV bb ub D) 97 := (HT1.out.block _ HH.out.lt hne).trans HH.out
  have c0' : w1.cell? ⟨db, 0, none⟩ = some (.pointer (some ⟨bb, 0, none⟩)) := hd1.cell 0
  clear hd1
  have HS2 := hid_of (bset_any bb cb 54 (by decide) fv (B.set 53 x) x w1 HB1.out)
  clear HS hb1 hw1 c0
  go_wp2_with fail
  refine HS2.out.mono ?_
  rintro e w2 ⟨rfl, u2, hb2, hw2⟩
  have HT2 : Hid (Tn w w2 cb (idxF B x).c) := by rw [hw2]; exact HT1.out.trans (Tn.of_put hb2 HB1.out.cel.lt _)
  clear HS2 hb2 hw2
  go_wp2_with fail
  exact bodyPost_end (v := .tuple #[]) (results_none rfl _ _ _) rfl ⟨rfl, HT2.out⟩
end Go.Proofs.Qxb6500749a
