import Derived.Test.Qxb6500749aSto
namespace Go.Proofs.Qxb6500749a
open Go.RowKit
attribute [local go_sem] put_size put_cell_same put_cell_ne put_frozen_same put_frozen_ne put_setCell_same put_setCell_ne put_drew
attribute [local go_sem] drewN_setCell drewN_alloc drewN_put
/-! ### The bank whole -/
structure BD where
  c : Nat → Int
  fs : List FD
  now : Int
def bV (cb : Nat) (fv : Value) (now : Int) : Array Value := #[.slice (some ⟨cb, 0, none⟩) 55 55, fv, .int .u32 now]
structure BR (w : World) (bb cb : Nat) (fv : Value) (B : BD) : Prop where
  blk : Blk w bb (bV cb fv B.now) 125
  cel : Blk w cb (encK B.c) 30
  sl : Sl w fv 33 5 B.fs.length (B.fs.flatMap frow)
  ok : ∀ f ∈ B.fs, f.Ok
  len : B.fs.length ≤ 2
  now : 0 ≤ B.now ∧ B.now < 4294967296
theorem BR.fr {w : World} {bb cb : Nat} {fv : Value} {B : BD} (h : BR w bb cb fv B) : FRep w bb fv B.fs B.now := ⟨h.blk.cell 1, h.blk.cell 2, h.sl, h.ok, h.len, h.now⟩
theorem BR.below {w w' : World} {bb cb : Nat} {fv : Value} {B : BD} (h : BR w bb cb fv B) (hb : Below w.heap.size w w') : BR w' bb cb fv B :=
  ⟨(hb.block _ h.blk.lt).trans h.blk, (hb.block _ h.cel.lt).trans h.cel, h.sl.same fun k hk => hb.block k (h.sl.lt k hk), h.ok, h.len, h.now⟩
def BD.get (B : BD) (site : Nat) : Int := wireF B.now site B.fs (B.c site)
def BD.pass (B : BD) (site : Nat) (v : Int) : Int := wireF B.now site B.fs (dropF B.now site B.fs v)
def BD.set (B : BD) (site : Nat) (v : Int) : BD := { B with c := upd B.c site (keepF B.now site (B.c site) B.fs v) }
set_option maxRecDepth 100000 in
theorem get_any (bb cb site : Nat) (hs : site < 55) (fv : Value) (B : BD) (w : World) (h : BR w bb cb fv B) :
    Calls Try.prog 58 #[.pointer (some ⟨bb, 0, none⟩), .int .i64 (site : Nat)] w fun e w' => e = .returned (.int .u32 (B.get site)) ∧ Below w.heap.size w w' := by
  have c0 : w.cell? ⟨bb, 0, none⟩ = some (.slice (some ⟨cb, 0, none⟩) 55 55) := h.blk.cell 0
  have k0 : w.cell? ⟨cb, site, none⟩ = some (.int .u32 (B.c site)) := by rw [h.cel.cell, kg_get _ _ hs]
  have HW := hid_of (wire_any bb site hs fv B.fs B.now (B.c site) w h.fr)
  have hsi : ((site : Nat) : Int) < 55 := by omega
  clear h
  go_enter Try.func58, Try.ntmps58
  go_wp2_with fail
  refine HW.out.mono ?_
  rintro e w1 ⟨rfl, hb⟩
  have HB := hid_of hb
  clear HW hb c0 k0
  go_wp2_with fail
  go_ret
  exact ⟨rfl, HB.out⟩
theorem bset_any (bb cb site : Nat) (hs : site < 55) (fv : Value) (B : BD) (v : Int) (w : World) (h : BR w bb cb fv B) :
    Calls Try.prog 67 #[.pointer (some ⟨bb, 0, none⟩), .int .i64 (site : Nat), .int .u32 v] w fun e w' => e = .returned (.tuple #[]) ∧ ∃ w0, Below w.heap.size w w0 ∧ w' = put w0 cb (encK (B.set site v).c) 30 :=
  set_any bb cb site hs fv B.fs B.now v B.c w h.fr (h.blk.cell 0) h.cel
theorem BR.turn {w w0 : World} {bb cb : Nat} {fv : Value} {B : BD} (h : BR w bb cb fv B) (hb : Below w.heap.size w w0) (site : Nat) (v : Int) : BR (put w0 cb (encK (B.set site v).c) 30) bb cb fv (B.set site v) := by
  have h0 := h.below hb
  have hbc : bb ≠ cb := h0.blk.neT h0.cel (by decide)
  exact ⟨h0.blk.put_ne hbc, Blk.put_same h0.cel.lt, h0.sl.same fun k hk => put_heap_ne _ _ _ _ _ (h0.cel.sl_ne (by decide) h0.sl k hk), h.ok, h.len, h.now⟩
theorem now_any (bb cb : Nat) (fv : Value) (B : BD) (w : World) (h : BR w bb cb fv B) :
    Calls Try.prog 63 #[.pointer (some ⟨bb, 0, none⟩)] w fun e w' => e = .returned (.int .u32 B.now) ∧ w' = w := by
  have c2 : w.cell? ⟨bb, 2, none⟩ = some (.int .u32 B.now) := h.blk.cell 2
  clear h
  go_enter Try.func63, Try.ntmps63
  go_wp2_with fail
  go_ret
  exact ⟨rfl, rfl⟩
theorem clock_any (bb cb : Nat) (fv : Value) (B : BD) (hn : B.now < 4294967295) (w : World) (h : BR w bb cb fv B) :
    Calls Try.prog 70 #[.pointer (some ⟨bb, 0, none⟩)] w fun e w' => e = .returned (.tuple #[]) ∧ w' = put w bb (bV cb fv (B.now + 1)) 125 := by
  have hadd : (B.now + 1) % 4294967296 = B.now + 1 := by have := h.now; omega
  obtain ⟨w0, rfl, hl0⟩ := h.blk.out
  clear h
  unfold bV
  go_enter Try.func70, Try.ntmps70
  go_wp2_with fail
  refine bodyPost_end (v := .tuple #[]) (results_none rfl _ _ _) rfl ⟨rfl, ?_⟩
  rw [put_put]
theorem BR.clocked {w : World} {bb cb : Nat} {fv : Value} {B : BD} (h : BR w bb cb fv B) (hn : B.now < 4294967295) : BR (put w bb (bV cb fv (B.now + 1)) 125) bb cb fv { B with now := B.now + 1 } := by
  have hbc : bb ≠ cb := h.blk.neT h.cel (by decide)
  exact ⟨Blk.put_same h.blk.lt, h.cel.put_ne (Ne.symm hbc), h.sl.same fun k hk => put_heap_ne _ _ _ _ _ (h.blk.sl_ne (by decide) h.sl k hk), h.ok, h.len, by have := h.now; show 0 ≤ B.now + 1 ∧ B.now + 1 < 4294967296; omega⟩
end Go.Proofs.Qxb6500749a
