import Derived.Test.Qxb6500749aExe
import Derived.LoopN
namespace Go.Proofs.Qxb6500749a
open Go.RowKit
attribute [local go_sem] put_size put_cell_same put_cell_ne put_frozen_same put_frozen_ne put_setCell_same put_setCell_ne put_drew
attribute [local go_sem] drewN_setCell drewN_alloc drewN_put
/-! ### Delay lines -/
def lnV (bb base words : Nat) : Array Value := #[.pointer (some ⟨bb, 0, none⟩), .int .i64 (base : Nat), .int .i64 (words : Nat)]
set_option maxRecDepth 100000 in
theorem site_any (bb base words stage word : Nat) (h1 : base ≤ 40) (h2 : words ≤ 3) (h3 : stage ≤ 1) (h4 : word ≤ 3) (w : World) :
    Calls Try.prog 78 #[.agg (lnV bb base words), .int .i64 (stage : Nat), .int .i64 (word : Nat)] w fun e w' => e = .returned (.int .i64 ((base + stage * words + word : Nat) : Int)) ∧ Below w.heap.size w w' := by
  have hmul : stage * words ≤ 3 := by
    have : stage * words ≤ 1 * words := Nat.mul_le_mul_right _ h3
    omega
  obtain ⟨m, hm⟩ : ∃ m, stage * words = m := ⟨_, rfl⟩
  have hmi : ((stage : Nat) : Int) * (words : Nat) = (m : Nat) := by rw [← hm]; simp
  rw [hm] at hmul
  have w1 : IntKind.i64.wrap ((m : Nat) : Int) = (m : Nat) := by simp [IntKind.wrap, IntKind.bits, IntKind.signed]; omega
  have w2 : IntKind.i64.wrap (((base : Nat) : Int) + (m : Nat)) = (base : Nat) + (m : Nat) := by simp [IntKind.wrap, IntKind.bits, IntKind.signed]; omega
  have w3 : IntKind.i64.wrap (((base : Nat) : Int) + (m : Nat) + (word : Nat)) = (base : Nat) + (m : Nat) + (word : Nat) := by simp [IntKind.wrap, IntKind.bits, IntKind.signed]; omega
  have he : ((base + stage * words + word : Nat) : Int) = (base : Nat) + (m : Nat) + (word : Nat) := by rw [hm]; omega
  rw [he]
  have HB : Hid (Below w.heap.size w (w.alloc (.cells (lnV bb base words) 91))) := (Below.refl _ _).alloc (Nat.le_refl _) _
  unfold lnV at *
  clear he hm hmul h1 h2 h3 h4
  go_enter Try.func78, Try.ntmps78
  go_wp2_with fail
  go_ret
  exact ⟨rfl, HB.out⟩
/-GEN-/
theorem BR.drew {w : World} {bb cb : Nat} {fv : Value} {B : BD} (h : BR w bb cb fv B) : BR w.drew bb cb fv B := ⟨h.blk, h.cel, h.sl, h.ok, h.len, h.now⟩
set_option maxRecDepth 100000 in
set_option maxHeartbeats 4000000 in
theorem oldest_any (bb cb base words word : Nat) (h1 : base ≤ 40) (h2 : words ≤ 3) (h4 : word ≤ 3) (fv : Value) (B : BD) (w : World) (h : BR w bb cb fv B) :
    Calls Try.prog 64 #[.agg (lnV bb base words), .int .i64 (word : Nat)] w fun e w' => e = .returned (.int .u32 (B.get (base + words + word))) ∧ Below w.heap.size w w' := by
  obtain ⟨W3, hW3⟩ : ∃ W3, w.alloc (.cells #[.pointer (some ⟨bb, 0, none⟩), .int .i64 (base : Nat), .int .i64 (words : Nat)] 91) = W3 := ⟨_, rfl⟩
  have hbel : Below w.heap.size w W3 := by rw [← hW3]; exact (Below.refl _ _).alloc (Nat.le_refl _) _
  have hbk : Blk W3 w.heap.size #[.pointer (some ⟨bb, 0, none⟩), .int .i64 (base : Nat), .int .i64 (words : Nat)] 91 := by rw [← hW3]; exact Blk.new _ _ _
  have HBR := hid_of (h.below hbel)
  have HBE := hid_of hbel
  have HBK := hid_of hbk
  have HS : Hid (Calls Try.prog 78 #[.agg #[.pointer (some ⟨bb, 0, none⟩), .int .i64 (base : Nat), .int .i64 (words : Nat)], .int .i64 1, .int .i64 (word : Nat)] W3.drew fun e w' => e = .returned (.int .i64 ((base + words + word : Nat) : Int)) ∧ Below W3.heap.size W3.drew w') := by
    have := site_any bb base words 1 word h1 h2 (by omega) h4 W3.drew
    rw [Nat.one_mul] at this
    exact this
  clear h hbel hbk
  unfold lnV
  go_enter Try.func64, Try.ntmps64
  go_upto_region 1 with fail
  clear hW3
  refine wp_region_float [0, 1, 2, 3] [4, 5, 6] [0, 3] mixed (fun ω => Blk ω w.heap.size #[.pointer (some ⟨bb, 0, none⟩), .int .i64 (base : Nat), .int .i64 (words : Nat)] 91) (by kernel_rfl) rfl (by kernel_rfl) HBK.out ?_
  refine wpFl_op _ _ _ _ rfl rfl (fun ω hj => by go_simp; rfl) ?_
  refine wpFl_op _ _ _ _ rfl rfl (fun ω hj => by have q : ω.cell? ⟨w.heap.size, 0, none⟩ = some (.pointer (some ⟨bb, 0, none⟩)) := Blk.cell (hj rfl) 0; go_simp; rfl) ?_
  refine wpFl_op _ _ _ _ rfl rfl (fun ω hj => by have q0 : ω.cell? ⟨w.heap.size, 0, none⟩ = some (.pointer (some ⟨bb, 0, none⟩)) := Blk.cell (hj rfl) 0; have q1 : ω.cell? ⟨w.heap.size, 1, none⟩ = some (.int .i64 (base : Nat)) := Blk.cell (hj rfl) 1; have q2 : ω.cell? ⟨w.heap.size, 2, none⟩ = some (.int .i64 (words : Nat)) := Blk.cell (hj rfl) 2; go_simp; rfl) ?_
  refine wpFl_op _ _ _ _ rfl rfl (fun ω hj => by go_simp; rfl) ?_
  refine wpFl_nil _ _ ?_
  simp only [Act.put, List.setIfInBounds_toArray]
  refine wpCh_one _ _ _ _ rfl ?_
  go_wp2_with fail
  refine HS.out.mono ?_
  rintro e w4 ⟨rfl, hb4⟩
  have HB4 := hid_of hb4
  clear hb4 HS
  go_wp2_with fail
  refine ⟨(HB4.out.block _ HBK.out.lt).trans HBK.out, ?_⟩
  have HG := hid_of (get_any bb cb (base + words + word) (by omega) fv B w4 (HBR.out.drew.below HB4.out))
  refine wpCh_rest _ _ _ _ [_, _] _ _ rfl (by kernel_rfl) ?_
  simp only [List.getElem_toArray, List.getElem_cons_succ, List.getElem_cons_zero]
  go_wp2_with fail
  refine HG.out.mono ?_
  rintro e w5 ⟨rfl, hb5⟩
  have HB5 : Hid (Below w.heap.size w w5) := HBE.out.trans ((show Below W3.heap.size W3 w5 from ((show Below W3.heap.size W3 w4 from ⟨HB4.out.os, HB4.out.tape, HB4.out.output, HB4.out.size, HB4.out.block⟩).trans (hb5.mono HB4.out.size))).mono HBE.out.size)
  clear hb5 HG HB4 HBR HBE HBK
  go_wp2_with fail
  go_ret
  exact ⟨rfl, HB5.out⟩
structure LR (w w1 : World) (lb ib bb cb : Nat) (fv : Value) (lv iv : Array Value) (B : BD) : Prop where
  tn : Tn w w1 cb B.c
  br : BR w1 bb cb fv B
  hl : Blk w1 lb lv 91
  hi : Blk w1 ib iv 30
  ll : w.heap.size ≤ lb
  li : ib < w.heap.size
  ic : ib ≠ cb
  hc : cb < w.heap.size
section
variable {w w1 w2 : World} {lb ib bb cb : Nat} {fv : Value} {lv iv : Array Value} {B B' : BD}
theorem LR.below (h : LR w w1 lb ib bb cb fv lv iv B) (k : Below w1.heap.size w1 w2) : LR w w2 lb ib bb cb fv lv iv B :=
  ⟨h.tn.trans (Tn.of_below k h.tn.cel), h.br.below k, (k.block _ h.hl.lt).trans h.hl, (k.block _ h.hi.lt).trans h.hi, h.ll, h.li, h.ic, h.hc⟩
theorem LR.drew (h : LR w w1 lb ib bb cb fv lv iv B) : LR w w1.drew lb ib bb cb fv lv iv B := h.below ⟨rfl, rfl, rfl, Nat.le_refl _, fun _ _ => rfl⟩
theorem LR.set (h : LR w w1 lb ib bb cb fv lv iv B) (k : Below w1.heap.size w1 w2) (site : Nat) (v : Int) : LR w (put w2 cb (encK (B.set site v).c) 30) lb ib bb cb fv lv iv (B.set site v) := by
  have ht : Tn w1 (put w2 cb (encK (B.set site v).c) 30) cb (B.set site v).c := Tn.of_put k h.tn.cel.lt _
  have h1 := h.hc
  have h2 := h.ll
  exact ⟨h.tn.trans ht, h.br.turn k site v, (ht.block _ h.hl.lt (by omega)).trans h.hl, (ht.block _ h.hi.lt h.ic).trans h.hi, h.ll, h.li, h.ic, h.hc⟩
end
set_option maxRecDepth 100000 in
set_option maxHeartbeats 8000000 in
theorem shift_in (bb cb ib : Nat) (x0 x1 : Int) (fv : Value) (B : BD) (w : World) (h : BR w bb cb fv B) (hi : Blk w ib #[.int .u32 x0, .int .u32 x1] 30) (hic : ib ≠ cb) :
    Calls Try.prog 69 #[.agg (lnV bb 36 2), .slice (some ⟨ib, 0, none⟩) 2 2] w fun e w' => e = .returned (.tuple #[]) ∧ Tn w w' cb (((((B).set 38 ((B).get 36)).set 39 (((B).set 38 ((B).get 36)).get 37)).set 36 (x0)).set 37 (x1)).c := by
  obtain ⟨W3, hW3⟩ : ∃ W3, w.alloc (.cells #[.pointer (some ⟨bb, 0, none⟩), .int .i64 36, .int .i64 2] 91) = W3 := ⟨_, rfl⟩
  have hbel : Below w.heap.size w W3 := by rw [← hW3]; exact (Below.refl _ _).alloc (Nat.le_refl _) _
  have hbk : Blk W3 w.heap.size #[.pointer (some ⟨bb, 0, none⟩), .int .i64 36, .int .i64 2] 91 := by rw [← hW3]; exact Blk.new _ _ _
  have HX : Hid (LR w W3 w.heap.size ib bb cb fv #[.pointer (some ⟨bb, 0, none⟩), .int .i64 36, .int .i64 2] #[.int .u32 x0, .int .u32 x1] B) := ⟨Tn.of_below hbel h.cel, h.below hbel, hbk, (hbel.block _ hi.lt).trans hi, Nat.le_refl _, hi.lt, hic, h.cel.lt⟩
  have c2 : W3.cell? ⟨w.heap.size, 2, none⟩ = some (.int .i64 2) := hbk.cell 2
  clear h hi hic hbel hbk
  show Calls Try.prog 69 #[.agg #[.pointer (some ⟨bb, 0, none⟩), .int .i64 36, .int .i64 2], .slice (some ⟨ib, 0, none⟩) 2 2] w _
  go_enter Try.func69, Try.ntmps69
  go_wp2_with fail
  clear hW3
  refine wp_loop_rounds 2 ?_
  rw [rounds_succ]
  go_wp2_with fail
  refine wp_loop_rounds 3 ?_
  rw [rounds_succ]
  go_upto_region 7 with fail
  clear c2
  refine wp_region_float [0, 1, 2, 3, 4, 6, 7, 8, 9, 10, 11] [5, 12, 13, 14] [0, 3, 4, 6, 9, 10, 11] mixed (fun ω => Blk ω w.heap.size #[.pointer (some ⟨bb, 0, none⟩), .int .i64 36, .int .i64 2] 91) (by kernel_rfl) rfl (by kernel_rfl) HX.out.drew.hl ?_
  refine wpFl_op _ _ _ _ rfl rfl (fun ω hj => by go_simp; rfl) ?_
  refine wpFl_op _ _ _ _ rfl rfl (fun ω hj => by have q : ω.cell? ⟨w.heap.size, 0, none⟩ = some (.pointer (some ⟨bb, 0, none⟩)) := Blk.cell (hj rfl) 0; go_simp; rfl) ?_
  refine wpFl_op _ _ _ _ rfl rfl (fun ω hj => by have q0 : ω.cell? ⟨w.heap.size, 0, none⟩ = some (.pointer (some ⟨bb, 0, none⟩)) := Blk.cell (hj rfl) 0; have q1 : ω.cell? ⟨w.heap.size, 1, none⟩ = some (.int .i64 36) := Blk.cell (hj rfl) 1; have q2 : ω.cell? ⟨w.heap.size, 2, none⟩ = some (.int .i64 2) := Blk.cell (hj rfl) 2; go_simp; rfl) ?_
  refine wpFl_op _ _ _ _ rfl rfl (fun ω hj => by go_simp; rfl) ?_
  refine wpFl_op _ _ _ _ rfl rfl (fun ω hj => by go_simp; rfl) ?_
  refine wpFl_op _ _ _ _ rfl rfl (fun ω hj => by go_simp; rfl) ?_
  refine wpFl_op _ _ _ _ rfl rfl (fun ω hj => by have q : ω.cell? ⟨w.heap.size, 0, none⟩ = some (.pointer (some ⟨bb, 0, none⟩)) := Blk.cell (hj rfl) 0; go_simp; rfl) ?_
  refine wpFl_op _ _ _ _ rfl rfl (fun ω hj => by have q0 : ω.cell? ⟨w.heap.size, 0, none⟩ = some (.pointer (some ⟨bb, 0, none⟩)) := Blk.cell (hj rfl) 0; have q1 : ω.cell? ⟨w.heap.size, 1, none⟩ = some (.int .i64 36) := Blk.cell (hj rfl) 1; have q2 : ω.cell? ⟨w.heap.size, 2, none⟩ = some (.int .i64 2) := Blk.cell (hj rfl) 2; go_simp; rfl) ?_
  refine wpFl_op _ _ _ _ rfl rfl (fun ω hj => by go_simp; rfl) ?_
  refine wpFl_op _ _ _ _ rfl rfl (fun ω hj => by go_simp; rfl) ?_
  refine wpFl_op _ _ _ _ rfl rfl (fun ω hj => by go_simp; rfl) ?_
  refine wpFl_nil _ _ ?_
  simp only [Act.put, List.setIfInBounds_toArray]
  have HX4 : Hid (LR w W3.drew w.heap.size ib bb cb fv #[.pointer (some ⟨bb, 0, none⟩), .int .i64 36, .int .i64 2] #[.int .u32 x0, .int .u32 x1] (B)) := HX.out.drew
  clear HX
  refine wpCh_one _ _ _ _ rfl ?_
  have HS : Hid (Calls Try.prog 78 #[.agg #[.pointer (some ⟨bb, 0, none⟩), .int .i64 36, .int .i64 2], .int .i64 1, .int .i64 0] W3.drew fun e w' => e = .returned (.int .i64 38) ∧ Below (W3.drew).heap.size (W3.drew) w') := site_any bb 36 2 1 0 (by decide) (by decide) (by decide) (by decide) W3.drew
  go_wp2_with fail
  refine HS.out.mono ?_
  rintro e v5 ⟨rfl, hb5⟩
  have HX5 : Hid (LR w v5 w.heap.size ib bb cb fv #[.pointer (some ⟨bb, 0, none⟩), .int .i64 36, .int .i64 2] #[.int .u32 x0, .int .u32 x1] (B)) := HX4.out.below hb5
  clear hb5 HS HX4
  go_wp2_with fail
  refine ⟨HX5.out.hl, ?_⟩
  refine wpCh_one _ _ _ _ rfl ?_
  have HS : Hid (Calls Try.prog 78 #[.agg #[.pointer (some ⟨bb, 0, none⟩), .int .i64 36, .int .i64 2], .int .i64 0, .int .i64 0] v5 fun e w' => e = .returned (.int .i64 36) ∧ Below (v5).heap.size (v5) w') := site_any bb 36 2 0 0 (by decide) (by decide) (by decide) (by decide) v5
  go_wp2_with fail
  refine HS.out.mono ?_
  rintro e v6 ⟨rfl, hb6⟩
  have HX6 : Hid (LR w v6 w.heap.size ib bb cb fv #[.pointer (some ⟨bb, 0, none⟩), .int .i64 36, .int .i64 2] #[.int .u32 x0, .int .u32 x1] (B)) := HX5.out.below hb6
  clear hb6 HS HX5
  go_wp2_with fail
  refine ⟨HX6.out.hl, ?_⟩
  refine wpCh_one _ _ _ _ rfl ?_
  have HG : Hid (Calls Try.prog 58 #[.pointer (some ⟨bb, 0, none⟩), .int .i64 36] v6 fun e w' => e = .returned (.int .u32 ((B).get 36)) ∧ Below (v6).heap.size (v6) w') := get_any bb cb 36 (by decide) fv (B) v6 HX6.out.br
  go_wp2_with fail
  refine HG.out.mono ?_
  rintro e v7 ⟨rfl, hb7⟩
  have HX7 : Hid (LR w v7 w.heap.size ib bb cb fv #[.pointer (some ⟨bb, 0, none⟩), .int .i64 36, .int .i64 2] #[.int .u32 x0, .int .u32 x1] (B)) := HX6.out.below hb7
  clear hb7 HG HX6
  go_wp2_with fail
  refine ⟨HX7.out.hl, ?_⟩
  refine wpCh_rest _ _ _ _ [_] _ _ rfl (by kernel_rfl) ?_
  simp only [List.getElem_toArray, List.getElem_cons_succ, List.getElem_cons_zero]
  have HS : Hid (Calls Try.prog 67 #[.pointer (some ⟨bb, 0, none⟩), .int .i64 38, .int .u32 ((B).get 36)] v7 fun e w' => e = .returned (.tuple #[]) ∧ ∃ w0, Below (v7).heap.size (v7) w0 ∧ w' = put w0 cb (encK ((B).set 38 ((B).get 36)).c) 30) := bset_any bb cb 38 (by decide) fv (B) ((B).get 36) v7 HX7.out.br
  go_wp2_with fail
  refine HS.out.mono ?_
  rintro e v8 ⟨rfl, u8, hb8, hw8⟩
  have HX8 : Hid (LR w v8 w.heap.size ib bb cb fv #[.pointer (some ⟨bb, 0, none⟩), .int .i64 36, .int .i64 2] #[.int .u32 x0, .int .u32 x1] ((B).set 38 ((B).get 36))) := by
    rw [hw8]; exact HX7.out.set hb8 _ _
  clear hb8 hw8 HS HX7
  go_wp2_with fail
  rw [rounds_succ]
  have c2 : v8.cell? ⟨w.heap.size, 2, none⟩ = some (.int .i64 2) := HX8.out.hl.cell 2
  go_upto_region 7 with fail
  clear c2
  refine wp_region_float [0, 1, 2, 3, 4, 6, 7, 8, 9, 10, 11] [5, 12, 13, 14] [0, 3, 4, 6, 9, 10, 11] mixed (fun ω => Blk ω w.heap.size #[.pointer (some ⟨bb, 0, none⟩), .int .i64 36, .int .i64 2] 91) (by kernel_rfl) rfl (by kernel_rfl) HX8.out.drew.hl ?_
  refine wpFl_op _ _ _ _ rfl rfl (fun ω hj => by go_simp; rfl) ?_
  refine wpFl_op _ _ _ _ rfl rfl (fun ω hj => by have q : ω.cell? ⟨w.heap.size, 0, none⟩ = some (.pointer (some ⟨bb, 0, none⟩)) := Blk.cell (hj rfl) 0; go_simp; rfl) ?_
  refine wpFl_op _ _ _ _ rfl rfl (fun ω hj => by have q0 : ω.cell? ⟨w.heap.size, 0, none⟩ = some (.pointer (some ⟨bb, 0, none⟩)) := Blk.cell (hj rfl) 0; have q1 : ω.cell? ⟨w.heap.size, 1, none⟩ = some (.int .i64 36) := Blk.cell (hj rfl) 1; have q2 : ω.cell? ⟨w.heap.size, 2, none⟩ = some (.int .i64 2) := Blk.cell (hj rfl) 2; go_simp; rfl) ?_
  refine wpFl_op _ _ _ _ rfl rfl (fun ω hj => by go_simp; rfl) ?_
  refine wpFl_op _ _ _ _ rfl rfl (fun ω hj => by go_simp; rfl) ?_
  refine wpFl_op _ _ _ _ rfl rfl (fun ω hj => by go_simp; rfl) ?_
  refine wpFl_op _ _ _ _ rfl rfl (fun ω hj => by have q : ω.cell? ⟨w.heap.size, 0, none⟩ = some (.pointer (some ⟨bb, 0, none⟩)) := Blk.cell (hj rfl) 0; go_simp; rfl) ?_
  refine wpFl_op _ _ _ _ rfl rfl (fun ω hj => by have q0 : ω.cell? ⟨w.heap.size, 0, none⟩ = some (.pointer (some ⟨bb, 0, none⟩)) := Blk.cell (hj rfl) 0; have q1 : ω.cell? ⟨w.heap.size, 1, none⟩ = some (.int .i64 36) := Blk.cell (hj rfl) 1; have q2 : ω.cell? ⟨w.heap.size, 2, none⟩ = some (.int .i64 2) := Blk.cell (hj rfl) 2; go_simp; rfl) ?_
  refine wpFl_op _ _ _ _ rfl rfl (fun ω hj => by go_simp; rfl) ?_
  refine wpFl_op _ _ _ _ rfl rfl (fun ω hj => by go_simp; rfl) ?_
  refine wpFl_op _ _ _ _ rfl rfl (fun ω hj => by go_simp; rfl) ?_
  refine wpFl_nil _ _ ?_
  simp only [Act.put, List.setIfInBounds_toArray]
  have HX9 : Hid (LR w v8.drew w.heap.size ib bb cb fv #[.pointer (some ⟨bb, 0, none⟩), .int .i64 36, .int .i64 2] #[.int .u32 x0, .int .u32 x1] ((B).set 38 ((B).get 36))) := HX8.out.drew
  clear HX8
  refine wpCh_one _ _ _ _ rfl ?_
  have HS : Hid (Calls Try.prog 78 #[.agg #[.pointer (some ⟨bb, 0, none⟩), .int .i64 36, .int .i64 2], .int .i64 1, .int .i64 1] v8.drew fun e w' => e = .returned (.int .i64 39) ∧ Below (v8.drew).heap.size (v8.drew) w') := site_any bb 36 2 1 1 (by decide) (by decide) (by decide) (by decide) v8.drew
  go_wp2_with fail
  refine HS.out.mono ?_
  rintro e v10 ⟨rfl, hb10⟩
  have HX10 : Hid (LR w v10 w.heap.size ib bb cb fv #[.pointer (some ⟨bb, 0, none⟩), .int .i64 36, .int .i64 2] #[.int .u32 x0, .int .u32 x1] ((B).set 38 ((B).get 36))) := HX9.out.below hb10
  clear hb10 HS HX9
  go_wp2_with fail
  refine ⟨HX10.out.hl, ?_⟩
  refine wpCh_one _ _ _ _ rfl ?_
  have HS : Hid (Calls Try.prog 78 #[.agg #[.pointer (some ⟨bb, 0, none⟩), .int .i64 36, .int .i64 2], .int .i64 0, .int .i64 1] v10 fun e w' => e = .returned (.int .i64 37) ∧ Below (v10).heap.size (v10) w') := site_any bb 36 2 0 1 (by decide) (by decide) (by decide) (by decide) v10
  go_wp2_with fail
  refine HS.out.mono ?_
  rintro e v11 ⟨rfl, hb11⟩
  have HX11 : Hid (LR w v11 w.heap.size ib bb cb fv #[.pointer (some ⟨bb, 0, none⟩), .int .i64 36, .int .i64 2] #[.int .u32 x0, .int .u32 x1] ((B).set 38 ((B).get 36))) := HX10.out.below hb11
  clear hb11 HS HX10
  go_wp2_with fail
  refine ⟨HX11.out.hl, ?_⟩
  refine wpCh_one _ _ _ _ rfl ?_
  have HG : Hid (Calls Try.prog 58 #[.pointer (some ⟨bb, 0, none⟩), .int .i64 37] v11 fun e w' => e = .returned (.int .u32 (((B).set 38 ((B).get 36)).get 37)) ∧ Below (v11).heap.size (v11) w') := get_any bb cb 37 (by decide) fv ((B).set 38 ((B).get 36)) v11 HX11.out.br
  go_wp2_with fail
  refine HG.out.mono ?_
  rintro e v12 ⟨rfl, hb12⟩
  have HX12 : Hid (LR w v12 w.heap.size ib bb cb fv #[.pointer (some ⟨bb, 0, none⟩), .int .i64 36, .int .i64 2] #[.int .u32 x0, .int .u32 x1] ((B).set 38 ((B).get 36))) := HX11.out.below hb12
  clear hb12 HG HX11
  go_wp2_with fail
  refine ⟨HX12.out.hl, ?_⟩
  refine wpCh_rest _ _ _ _ [_] _ _ rfl (by kernel_rfl) ?_
  simp only [List.getElem_toArray, List.getElem_cons_succ, List.getElem_cons_zero]
  have HS : Hid (Calls Try.prog 67 #[.pointer (some ⟨bb, 0, none⟩), .int .i64 39, .int .u32 (((B).set 38 ((B).get 36)).get 37)] v12 fun e w' => e = .returned (.tuple #[]) ∧ ∃ w0, Below (v12).heap.size (v12) w0 ∧ w' = put w0 cb (encK (((B).set 38 ((B).get 36)).set 39 (((B).set 38 ((B).get 36)).get 37)).c) 30) := bset_any bb cb 39 (by decide) fv ((B).set 38 ((B).get 36)) (((B).set 38 ((B).get 36)).get 37) v12 HX12.out.br
  go_wp2_with fail
  refine HS.out.mono ?_
  rintro e v13 ⟨rfl, u13, hb13, hw13⟩
  have HX13 : Hid (LR w v13 w.heap.size ib bb cb fv #[.pointer (some ⟨bb, 0, none⟩), .int .i64 36, .int .i64 2] #[.int .u32 x0, .int .u32 x1] (((B).set 38 ((B).get 36)).set 39 (((B).set 38 ((B).get 36)).get 37))) := by
    rw [hw13]; exact HX12.out.set hb13 _ _
  clear hb13 hw13 HS HX12
  go_wp2_with fail
  rw [rounds_succ]
  have c2 : v13.cell? ⟨w.heap.size, 2, none⟩ = some (.int .i64 2) := HX13.out.hl.cell 2
  go_wp2_with fail
  clear c2
  rw [rounds_succ]
  go_wp2_with fail
  refine wp_loop_rounds 3 ?_
  rw [rounds_succ]
  have i0 : v13.cell? ⟨ib, 0, none⟩ = some (.int .u32 x0) := HX13.out.hi.cell 0
  go_upto_region 11 with fail
  clear i0
  refine wp_region_float [0, 1, 2, 3, 5] [4, 6] [0, 3, 5] mixed (fun ω => Blk ω w.heap.size #[.pointer (some ⟨bb, 0, none⟩), .int .i64 36, .int .i64 2] 91) (by kernel_rfl) rfl (by kernel_rfl) HX13.out.drew.hl ?_
  refine wpFl_op _ _ _ _ rfl rfl (fun ω hj => by go_simp; rfl) ?_
  refine wpFl_op _ _ _ _ rfl rfl (fun ω hj => by have q : ω.cell? ⟨w.heap.size, 0, none⟩ = some (.pointer (some ⟨bb, 0, none⟩)) := Blk.cell (hj rfl) 0; go_simp; rfl) ?_
  refine wpFl_op _ _ _ _ rfl rfl (fun ω hj => by have q0 : ω.cell? ⟨w.heap.size, 0, none⟩ = some (.pointer (some ⟨bb, 0, none⟩)) := Blk.cell (hj rfl) 0; have q1 : ω.cell? ⟨w.heap.size, 1, none⟩ = some (.int .i64 36) := Blk.cell (hj rfl) 1; have q2 : ω.cell? ⟨w.heap.size, 2, none⟩ = some (.int .i64 2) := Blk.cell (hj rfl) 2; go_simp; rfl) ?_
  refine wpFl_op _ _ _ _ rfl rfl (fun ω hj => by go_simp; rfl) ?_
  refine wpFl_op _ _ _ _ rfl rfl (fun ω hj => by go_simp; rfl) ?_
  refine wpFl_nil _ _ ?_
  simp only [Act.put, List.setIfInBounds_toArray]
  have HX14 : Hid (LR w v13.drew w.heap.size ib bb cb fv #[.pointer (some ⟨bb, 0, none⟩), .int .i64 36, .int .i64 2] #[.int .u32 x0, .int .u32 x1] (((B).set 38 ((B).get 36)).set 39 (((B).set 38 ((B).get 36)).get 37))) := HX13.out.drew
  clear HX13
  refine wpCh_one _ _ _ _ rfl ?_
  have HS : Hid (Calls Try.prog 78 #[.agg #[.pointer (some ⟨bb, 0, none⟩), .int .i64 36, .int .i64 2], .int .i64 0, .int .i64 0] v13.drew fun e w' => e = .returned (.int .i64 36) ∧ Below (v13.drew).heap.size (v13.drew) w') := site_any bb 36 2 0 0 (by decide) (by decide) (by decide) (by decide) v13.drew
  go_wp2_with fail
  refine HS.out.mono ?_
  rintro e v15 ⟨rfl, hb15⟩
  have HX15 : Hid (LR w v15 w.heap.size ib bb cb fv #[.pointer (some ⟨bb, 0, none⟩), .int .i64 36, .int .i64 2] #[.int .u32 x0, .int .u32 x1] (((B).set 38 ((B).get 36)).set 39 (((B).set 38 ((B).get 36)).get 37))) := HX14.out.below hb15
  clear hb15 HS HX14
  go_wp2_with fail
  refine ⟨HX15.out.hl, ?_⟩
  refine wpCh_rest _ _ _ _ [_] _ _ rfl (by kernel_rfl) ?_
  simp only [List.getElem_toArray, List.getElem_cons_succ, List.getElem_cons_zero]
  have HS : Hid (Calls Try.prog 67 #[.pointer (some ⟨bb, 0, none⟩), .int .i64 36, .int .u32 (x0)] v15 fun e w' => e = .returned (.tuple #[]) ∧ ∃ w0, Below (v15).heap.size (v15) w0 ∧ w' = put w0 cb (encK ((((B).set 38 ((B).get 36)).set 39 (((B).set 38 ((B).get 36)).get 37)).set 36 (x0)).c) 30) := bset_any bb cb 36 (by decide) fv (((B).set 38 ((B).get 36)).set 39 (((B).set 38 ((B).get 36)).get 37)) (x0) v15 HX15.out.br
  go_wp2_with fail
  refine HS.out.mono ?_
  rintro e v16 ⟨rfl, u16, hb16, hw16⟩
  have HX16 : Hid (LR w v16 w.heap.size ib bb cb fv #[.pointer (some ⟨bb, 0, none⟩), .int .i64 36, .int .i64 2] #[.int .u32 x0, .int .u32 x1] ((((B).set 38 ((B).get 36)).set 39 (((B).set 38 ((B).get 36)).get 37)).set 36 (x0))) := by
    rw [hw16]; exact HX15.out.set hb16 _ _
  clear hb16 hw16 HS HX15
  go_wp2_with fail
  rw [rounds_succ]
  have i1 : v16.cell? ⟨ib, 1, none⟩ = some (.int .u32 x1) := HX16.out.hi.cell 1
  go_upto_region 11 with fail
  clear i1
  refine wp_region_float [0, 1, 2, 3, 5] [4, 6] [0, 3, 5] mixed (fun ω => Blk ω w.heap.size #[.pointer (some ⟨bb, 0, none⟩), .int .i64 36, .int .i64 2] 91) (by kernel_rfl) rfl (by kernel_rfl) HX16.out.drew.hl ?_
  refine wpFl_op _ _ _ _ rfl rfl (fun ω hj => by go_simp; rfl) ?_
  refine wpFl_op _ _ _ _ rfl rfl (fun ω hj => by have q : ω.cell? ⟨w.heap.size, 0, none⟩ = some (.pointer (some ⟨bb, 0, none⟩)) := Blk.cell (hj rfl) 0; go_simp; rfl) ?_
  refine wpFl_op _ _ _ _ rfl rfl (fun ω hj => by have q0 : ω.cell? ⟨w.heap.size, 0, none⟩ = some (.pointer (some ⟨bb, 0, none⟩)) := Blk.cell (hj rfl) 0; have q1 : ω.cell? ⟨w.heap.size, 1, none⟩ = some (.int .i64 36) := Blk.cell (hj rfl) 1; have q2 : ω.cell? ⟨w.heap.size, 2, none⟩ = some (.int .i64 2) := Blk.cell (hj rfl) 2; go_simp; rfl) ?_
  refine wpFl_op _ _ _ _ rfl rfl (fun ω hj => by go_simp; rfl) ?_
  refine wpFl_op _ _ _ _ rfl rfl (fun ω hj => by go_simp; rfl) ?_
  refine wpFl_nil _ _ ?_
  simp only [Act.put, List.setIfInBounds_toArray]
  have HX17 : Hid (LR w v16.drew w.heap.size ib bb cb fv #[.pointer (some ⟨bb, 0, none⟩), .int .i64 36, .int .i64 2] #[.int .u32 x0, .int .u32 x1] ((((B).set 38 ((B).get 36)).set 39 (((B).set 38 ((B).get 36)).get 37)).set 36 (x0))) := HX16.out.drew
  clear HX16
  refine wpCh_one _ _ _ _ rfl ?_
  have HS : Hid (Calls Try.prog 78 #[.agg #[.pointer (some ⟨bb, 0, none⟩), .int .i64 36, .int .i64 2], .int .i64 0, .int .i64 1] v16.drew fun e w' => e = .returned (.int .i64 37) ∧ Below (v16.drew).heap.size (v16.drew) w') := site_any bb 36 2 0 1 (by decide) (by decide) (by decide) (by decide) v16.drew
  go_wp2_with fail
  refine HS.out.mono ?_
  rintro e v18 ⟨rfl, hb18⟩
  have HX18 : Hid (LR w v18 w.heap.size ib bb cb fv #[.pointer (some ⟨bb, 0, none⟩), .int .i64 36, .int .i64 2] #[.int .u32 x0, .int .u32 x1] ((((B).set 38 ((B).get 36)).set 39 (((B).set 38 ((B).get 36)).get 37)).set 36 (x0))) := HX17.out.below hb18
  clear hb18 HS HX17
  go_wp2_with fail
  refine ⟨HX18.out.hl, ?_⟩
  refine wpCh_rest _ _ _ _ [_] _ _ rfl (by kernel_rfl) ?_
  simp only [List.getElem_toArray, List.getElem_cons_succ, List.getElem_cons_zero]
  have HS : Hid (Calls Try.prog 67 #[.pointer (some ⟨bb, 0, none⟩), .int .i64 37, .int .u32 (x1)] v18 fun e w' => e = .returned (.tuple #[]) ∧ ∃ w0, Below (v18).heap.size (v18) w0 ∧ w' = put w0 cb (encK (((((B).set 38 ((B).get 36)).set 39 (((B).set 38 ((B).get 36)).get 37)).set 36 (x0)).set 37 (x1)).c) 30) := bset_any bb cb 37 (by decide) fv ((((B).set 38 ((B).get 36)).set 39 (((B).set 38 ((B).get 36)).get 37)).set 36 (x0)) (x1) v18 HX18.out.br
  go_wp2_with fail
  refine HS.out.mono ?_
  rintro e v19 ⟨rfl, u19, hb19, hw19⟩
  have HX19 : Hid (LR w v19 w.heap.size ib bb cb fv #[.pointer (some ⟨bb, 0, none⟩), .int .i64 36, .int .i64 2] #[.int .u32 x0, .int .u32 x1] (((((B).set 38 ((B).get 36)).set 39 (((B).set 38 ((B).get 36)).get 37)).set 36 (x0)).set 37 (x1))) := by
    rw [hw19]; exact HX18.out.set hb19 _ _
  clear hb19 hw19 HS HX18
  go_wp2_with fail
  rw [rounds_succ]
  go_wp2_with fail
  exact bodyPost_end (v := .tuple #[]) (results_none rfl _ _ _) rfl ⟨rfl, HX19.out.tn⟩
set_option maxRecDepth 100000 in
set_option maxHeartbeats 8000000 in
theorem shift_out (bb cb ib : Nat) (x0 x1 x2 : Int) (fv : Value) (B : BD) (w : World) (h : BR w bb cb fv B) (hi : Blk w ib #[.int .u32 x0, .int .u32 x1, .int .u32 x2] 30) (hic : ib ≠ cb) :
    Calls Try.prog 69 #[.agg (lnV bb 40 3), .slice (some ⟨ib, 0, none⟩) 3 3] w fun e w' => e = .returned (.tuple #[]) ∧ Tn w w' cb (((((((B).set 43 ((B).get 40)).set 44 (((B).set 43 ((B).get 40)).get 41)).set 45 ((((B).set 43 ((B).get 40)).set 44 (((B).set 43 ((B).get 40)).get 41)).get 42)).set 40 (x0)).set 41 (x1)).set 42 (x2)).c := by
  obtain ⟨W3, hW3⟩ : ∃ W3, w.alloc (.cells #[.pointer (some ⟨bb, 0, none⟩), .int .i64 40, .int .i64 3] 91) = W3 := ⟨_, rfl⟩
  have hbel : Below w.heap.size w W3 := by rw [← hW3]; exact (Below.refl _ _).alloc (Nat.le_refl _) _
  have hbk : Blk W3 w.heap.size #[.pointer (some ⟨bb, 0, none⟩), .int .i64 40, .int .i64 3] 91 := by rw [← hW3]; exact Blk.new _ _ _
  have HX : Hid (LR w W3 w.heap.size ib bb cb fv #[.pointer (some ⟨bb, 0, none⟩), .int .i64 40, .int .i64 3] #[.int .u32 x0, .int .u32 x1, .int .u32 x2] B) := ⟨Tn.of_below hbel h.cel, h.below hbel, hbk, (hbel.block _ hi.lt).trans hi, Nat.le_refl _, hi.lt, hic, h.cel.lt⟩
  have c2 : W3.cell? ⟨w.heap.size, 2, none⟩ = some (.int .i64 3) := hbk.cell 2
  clear h hi hic hbel hbk
  show Calls Try.prog 69 #[.agg #[.pointer (some ⟨bb, 0, none⟩), .int .i64 40, .int .i64 3], .slice (some ⟨ib, 0, none⟩) 3 3] w _
  go_enter Try.func69, Try.ntmps69
  go_wp2_with fail
  clear hW3
  refine wp_loop_rounds 2 ?_
  rw [rounds_succ]
  go_wp2_with fail
  refine wp_loop_rounds 4 ?_
  rw [rounds_succ]
  go_upto_region 7 with fail
  clear c2
  refine wp_region_float [0, 1, 2, 3, 4, 6, 7, 8, 9, 10, 11] [5, 12, 13, 14] [0, 3, 4, 6, 9, 10, 11] mixed (fun ω => Blk ω w.heap.size #[.pointer (some ⟨bb, 0, none⟩), .int .i64 40, .int .i64 3] 91) (by kernel_rfl) rfl (by kernel_rfl) HX.out.drew.hl ?_
  refine wpFl_op _ _ _ _ rfl rfl (fun ω hj => by go_simp; rfl) ?_
  refine wpFl_op _ _ _ _ rfl rfl (fun ω hj => by have q : ω.cell? ⟨w.heap.size, 0, none⟩ = some (.pointer (some ⟨bb, 0, none⟩)) := Blk.cell (hj rfl) 0; go_simp; rfl) ?_
  refine wpFl_op _ _ _ _ rfl rfl (fun ω hj => by have q0 : ω.cell? ⟨w.heap.size, 0, none⟩ = some (.pointer (some ⟨bb, 0, none⟩)) := Blk.cell (hj rfl) 0; have q1 : ω.cell? ⟨w.heap.size, 1, none⟩ = some (.int .i64 40) := Blk.cell (hj rfl) 1; have q2 : ω.cell? ⟨w.heap.size, 2, none⟩ = some (.int .i64 3) := Blk.cell (hj rfl) 2; go_simp; rfl) ?_
  refine wpFl_op _ _ _ _ rfl rfl (fun ω hj => by go_simp; rfl) ?_
  refine wpFl_op _ _ _ _ rfl rfl (fun ω hj => by go_simp; rfl) ?_
  refine wpFl_op _ _ _ _ rfl rfl (fun ω hj => by go_simp; rfl) ?_
  refine wpFl_op _ _ _ _ rfl rfl (fun ω hj => by have q : ω.cell? ⟨w.heap.size, 0, none⟩ = some (.pointer (some ⟨bb, 0, none⟩)) := Blk.cell (hj rfl) 0; go_simp; rfl) ?_
  refine wpFl_op _ _ _ _ rfl rfl (fun ω hj => by have q0 : ω.cell? ⟨w.heap.size, 0, none⟩ = some (.pointer (some ⟨bb, 0, none⟩)) := Blk.cell (hj rfl) 0; have q1 : ω.cell? ⟨w.heap.size, 1, none⟩ = some (.int .i64 40) := Blk.cell (hj rfl) 1; have q2 : ω.cell? ⟨w.heap.size, 2, none⟩ = some (.int .i64 3) := Blk.cell (hj rfl) 2; go_simp; rfl) ?_
  refine wpFl_op _ _ _ _ rfl rfl (fun ω hj => by go_simp; rfl) ?_
  refine wpFl_op _ _ _ _ rfl rfl (fun ω hj => by go_simp; rfl) ?_
  refine wpFl_op _ _ _ _ rfl rfl (fun ω hj => by go_simp; rfl) ?_
  refine wpFl_nil _ _ ?_
  simp only [Act.put, List.setIfInBounds_toArray]
  have HX4 : Hid (LR w W3.drew w.heap.size ib bb cb fv #[.pointer (some ⟨bb, 0, none⟩), .int .i64 40, .int .i64 3] #[.int .u32 x0, .int .u32 x1, .int .u32 x2] (B)) := HX.out.drew
  clear HX
  refine wpCh_one _ _ _ _ rfl ?_
  have HS : Hid (Calls Try.prog 78 #[.agg #[.pointer (some ⟨bb, 0, none⟩), .int .i64 40, .int .i64 3], .int .i64 1, .int .i64 0] W3.drew fun e w' => e = .returned (.int .i64 43) ∧ Below (W3.drew).heap.size (W3.drew) w') := site_any bb 40 3 1 0 (by decide) (by decide) (by decide) (by decide) W3.drew
  go_wp2_with fail
  refine HS.out.mono ?_
  rintro e v5 ⟨rfl, hb5⟩
  have HX5 : Hid (LR w v5 w.heap.size ib bb cb fv #[.pointer (some ⟨bb, 0, none⟩), .int .i64 40, .int .i64 3] #[.int .u32 x0, .int .u32 x1, .int .u32 x2] (B)) := HX4.out.below hb5
  clear hb5 HS HX4
  go_wp2_with fail
  refine ⟨HX5.out.hl, ?_⟩
  refine wpCh_one _ _ _ _ rfl ?_
  have HS : Hid (Calls Try.prog 78 #[.agg #[.pointer (some ⟨bb, 0, none⟩), .int .i64 40, .int .i64 3], .int .i64 0, .int .i64 0] v5 fun e w' => e = .returned (.int .i64 40) ∧ Below (v5).heap.size (v5) w') := site_any bb 40 3 0 0 (by decide) (by decide) (by decide) (by decide) v5
  go_wp2_with fail
  refine HS.out.mono ?_
  rintro e v6 ⟨rfl, hb6⟩
  have HX6 : Hid (LR w v6 w.heap.size ib bb cb fv #[.pointer (some ⟨bb, 0, none⟩), .int .i64 40, .int .i64 3] #[.int .u32 x0, .int .u32 x1, .int .u32 x2] (B)) := HX5.out.below hb6
  clear hb6 HS HX5
  go_wp2_with fail
  refine ⟨HX6.out.hl, ?_⟩
  refine wpCh_one _ _ _ _ rfl ?_
  have HG : Hid (Calls Try.prog 58 #[.pointer (some ⟨bb, 0, none⟩), .int .i64 40] v6 fun e w' => e = .returned (.int .u32 ((B).get 40)) ∧ Below (v6).heap.size (v6) w') := get_any bb cb 40 (by decide) fv (B) v6 HX6.out.br
  go_wp2_with fail
  refine HG.out.mono ?_
  rintro e v7 ⟨rfl, hb7⟩
  have HX7 : Hid (LR w v7 w.heap.size ib bb cb fv #[.pointer (some ⟨bb, 0, none⟩), .int .i64 40, .int .i64 3] #[.int .u32 x0, .int .u32 x1, .int .u32 x2] (B)) := HX6.out.below hb7
  clear hb7 HG HX6
  go_wp2_with fail
  refine ⟨HX7.out.hl, ?_⟩
  refine wpCh_rest _ _ _ _ [_] _ _ rfl (by kernel_rfl) ?_
  simp only [List.getElem_toArray, List.getElem_cons_succ, List.getElem_cons_zero]
  have HS : Hid (Calls Try.prog 67 #[.pointer (some ⟨bb, 0, none⟩), .int .i64 43, .int .u32 ((B).get 40)] v7 fun e w' => e = .returned (.tuple #[]) ∧ ∃ w0, Below (v7).heap.size (v7) w0 ∧ w' = put w0 cb (encK ((B).set 43 ((B).get 40)).c) 30) := bset_any bb cb 43 (by decide) fv (B) ((B).get 40) v7 HX7.out.br
  go_wp2_with fail
  refine HS.out.mono ?_
  rintro e v8 ⟨rfl, u8, hb8, hw8⟩
  have HX8 : Hid (LR w v8 w.heap.size ib bb cb fv #[.pointer (some ⟨bb, 0, none⟩), .int .i64 40, .int .i64 3] #[.int .u32 x0, .int .u32 x1, .int .u32 x2] ((B).set 43 ((B).get 40))) := by
    rw [hw8]; exact HX7.out.set hb8 _ _
  clear hb8 hw8 HS HX7
  go_wp2_with fail
  rw [rounds_succ]
  have c2 : v8.cell? ⟨w.heap.size, 2, none⟩ = some (.int .i64 3) := HX8.out.hl.cell 2
  go_upto_region 7 with fail
  clear c2
  refine wp_region_float [0, 1, 2, 3, 4, 6, 7, 8, 9, 10, 11] [5, 12, 13, 14] [0, 3, 4, 6, 9, 10, 11] mixed (fun ω => Blk ω w.heap.size #[.pointer (some ⟨bb, 0, none⟩), .int .i64 40, .int .i64 3] 91) (by kernel_rfl) rfl (by kernel_rfl) HX8.out.drew.hl ?_
  refine wpFl_op _ _ _ _ rfl rfl (fun ω hj => by go_simp; rfl) ?_
  refine wpFl_op _ _ _ _ rfl rfl (fun ω hj => by have q : ω.cell? ⟨w.heap.size, 0, none⟩ = some (.pointer (some ⟨bb, 0, none⟩)) := Blk.cell (hj rfl) 0; go_simp; rfl) ?_
  refine wpFl_op _ _ _ _ rfl rfl (fun ω hj => by have q0 : ω.cell? ⟨w.heap.size, 0, none⟩ = some (.pointer (some ⟨bb, 0, none⟩)) := Blk.cell (hj rfl) 0; have q1 : ω.cell? ⟨w.heap.size, 1, none⟩ = some (.int .i64 40) := Blk.cell (hj rfl) 1; have q2 : ω.cell? ⟨w.heap.size, 2, none⟩ = some (.int .i64 3) := Blk.cell (hj rfl) 2; go_simp; rfl) ?_
  refine wpFl_op _ _ _ _ rfl rfl (fun ω hj => by go_simp; rfl) ?_
  refine wpFl_op _ _ _ _ rfl rfl (fun ω hj => by go_simp; rfl) ?_
  refine wpFl_op _ _ _ _ rfl rfl (fun ω hj => by go_simp; rfl) ?_
  refine wpFl_op _ _ _ _ rfl rfl (fun ω hj => by have q : ω.cell? ⟨w.heap.size, 0, none⟩ = some (.pointer (some ⟨bb, 0, none⟩)) := Blk.cell (hj rfl) 0; go_simp; rfl) ?_
  refine wpFl_op _ _ _ _ rfl rfl (fun ω hj => by have q0 : ω.cell? ⟨w.heap.size, 0, none⟩ = some (.pointer (some ⟨bb, 0, none⟩)) := Blk.cell (hj rfl) 0; have q1 : ω.cell? ⟨w.heap.size, 1, none⟩ = some (.int .i64 40) := Blk.cell (hj rfl) 1; have q2 : ω.cell? ⟨w.heap.size, 2, none⟩ = some (.int .i64 3) := Blk.cell (hj rfl) 2; go_simp; rfl) ?_
  refine wpFl_op _ _ _ _ rfl rfl (fun ω hj => by go_simp; rfl) ?_
  refine wpFl_op _ _ _ _ rfl rfl (fun ω hj => by go_simp; rfl) ?_
  refine wpFl_op _ _ _ _ rfl rfl (fun ω hj => by go_simp; rfl) ?_
  refine wpFl_nil _ _ ?_
  simp only [Act.put, List.setIfInBounds_toArray]
  have HX9 : Hid (LR w v8.drew w.heap.size ib bb cb fv #[.pointer (some ⟨bb, 0, none⟩), .int .i64 40, .int .i64 3] #[.int .u32 x0, .int .u32 x1, .int .u32 x2] ((B).set 43 ((B).get 40))) := HX8.out.drew
  clear HX8
  refine wpCh_one _ _ _ _ rfl ?_
  have HS : Hid (Calls Try.prog 78 #[.agg #[.pointer (some ⟨bb, 0, none⟩), .int .i64 40, .int .i64 3], .int .i64 1, .int .i64 1] v8.drew fun e w' => e = .returned (.int .i64 44) ∧ Below (v8.drew).heap.size (v8.drew) w') := site_any bb 40 3 1 1 (by decide) (by decide) (by decide) (by decide) v8.drew
  go_wp2_with fail
  refine HS.out.mono ?_
  rintro e v10 ⟨rfl, hb10⟩
  have HX10 : Hid (LR w v10 w.heap.size ib bb cb fv #[.pointer (some ⟨bb, 0, none⟩), .int .i64 40, .int .i64 3] #[.int .u32 x0, .int .u32 x1, .int .u32 x2] ((B).set 43 ((B).get 40))) := HX9.out.below hb10
  clear hb10 HS HX9
  go_wp2_with fail
  refine ⟨HX10.out.hl, ?_⟩
  refine wpCh_one _ _ _ _ rfl ?_
  have HS : Hid (Calls Try.prog 78 #[.agg #[.pointer (some ⟨bb, 0, none⟩), .int .i64 40, .int .i64 3], .int .i64 0, .int .i64 1] v10 fun e w' => e = .returned (.int .i64 41) ∧ Below (v10).heap.size (v10) w') := site_any bb 40 3 0 1 (by decide) (by decide) (by decide) (by decide) v10
  go_wp2_with fail
  refine HS.out.mono ?_
  rintro e v11 ⟨rfl, hb11⟩
  have HX11 : Hid (LR w v11 w.heap.size ib bb cb fv #[.pointer (some ⟨bb, 0, none⟩), .int .i64 40, .int .i64 3] #[.int .u32 x0, .int .u32 x1, .int .u32 x2] ((B).set 43 ((B).get 40))) := HX10.out.below hb11
  clear hb11 HS HX10
  go_wp2_with fail
  refine ⟨HX11.out.hl, ?_⟩
  refine wpCh_one _ _ _ _ rfl ?_
  have HG : Hid (Calls Try.prog 58 #[.pointer (some ⟨bb, 0, none⟩), .int .i64 41] v11 fun e w' => e = .returned (.int .u32 (((B).set 43 ((B).get 40)).get 41)) ∧ Below (v11).heap.size (v11) w') := get_any bb cb 41 (by decide) fv ((B).set 43 ((B).get 40)) v11 HX11.out.br
  go_wp2_with fail
  refine HG.out.mono ?_
  rintro e v12 ⟨rfl, hb12⟩
  have HX12 : Hid (LR w v12 w.heap.size ib bb cb fv #[.pointer (some ⟨bb, 0, none⟩), .int .i64 40, .int .i64 3] #[.int .u32 x0, .int .u32 x1, .int .u32 x2] ((B).set 43 ((B).get 40))) := HX11.out.below hb12
  clear hb12 HG HX11
  go_wp2_with fail
  refine ⟨HX12.out.hl, ?_⟩
  refine wpCh_rest _ _ _ _ [_] _ _ rfl (by kernel_rfl) ?_
  simp only [List.getElem_toArray, List.getElem_cons_succ, List.getElem_cons_zero]
  have HS : Hid (Calls Try.prog 67 #[.pointer (some ⟨bb, 0, none⟩), .int .i64 44, .int .u32 (((B).set 43 ((B).get 40)).get 41)] v12 fun e w' => e = .returned (.tuple #[]) ∧ ∃ w0, Below (v12).heap.size (v12) w0 ∧ w' = put w0 cb (encK (((B).set 43 ((B).get 40)).set 44 (((B).set 43 ((B).get 40)).get 41)).c) 30) := bset_any bb cb 44 (by decide) fv ((B).set 43 ((B).get 40)) (((B).set 43 ((B).get 40)).get 41) v12 HX12.out.br
  go_wp2_with fail
  refine HS.out.mono ?_
  rintro e v13 ⟨rfl, u13, hb13, hw13⟩
  have HX13 : Hid (LR w v13 w.heap.size ib bb cb fv #[.pointer (some ⟨bb, 0, none⟩), .int .i64 40, .int .i64 3] #[.int .u32 x0, .int .u32 x1, .int .u32 x2] (((B).set 43 ((B).get 40)).set 44 (((B).set 43 ((B).get 40)).get 41))) := by
    rw [hw13]; exact HX12.out.set hb13 _ _
  clear hb13 hw13 HS HX12
  go_wp2_with fail
  rw [rounds_succ]
  have c2 : v13.cell? ⟨w.heap.size, 2, none⟩ = some (.int .i64 3) := HX13.out.hl.cell 2
  go_upto_region 7 with fail
  clear c2
  refine wp_region_float [0, 1, 2, 3, 4, 6, 7, 8, 9, 10, 11] [5, 12, 13, 14] [0, 3, 4, 6, 9, 10, 11] mixed (fun ω => Blk ω w.heap.size #[.pointer (some ⟨bb, 0, none⟩), .int .i64 40, .int .i64 3] 91) (by kernel_rfl) rfl (by kernel_rfl) HX13.out.drew.hl ?_
  refine wpFl_op _ _ _ _ rfl rfl (fun ω hj => by go_simp; rfl) ?_
  refine wpFl_op _ _ _ _ rfl rfl (fun ω hj => by have q : ω.cell? ⟨w.heap.size, 0, none⟩ = some (.pointer (some ⟨bb, 0, none⟩)) := Blk.cell (hj rfl) 0; go_simp; rfl) ?_
  refine wpFl_op _ _ _ _ rfl rfl (fun ω hj => by have q0 : ω.cell? ⟨w.heap.size, 0, none⟩ = some (.pointer (some ⟨bb, 0, none⟩)) := Blk.cell (hj rfl) 0; have q1 : ω.cell? ⟨w.heap.size, 1, none⟩ = some (.int .i64 40) := Blk.cell (hj rfl) 1; have q2 : ω.cell? ⟨w.heap.size, 2, none⟩ = some (.int .i64 3) := Blk.cell (hj rfl) 2; go_simp; rfl) ?_
  refine wpFl_op _ _ _ _ rfl rfl (fun ω hj => by go_simp; rfl) ?_
  refine wpFl_op _ _ _ _ rfl rfl (fun ω hj => by go_simp; rfl) ?_
  refine wpFl_op _ _ _ _ rfl rfl (fun ω hj => by go_simp; rfl) ?_
  refine wpFl_op _ _ _ _ rfl rfl (fun ω hj => by have q : ω.cell? ⟨w.heap.size, 0, none⟩ = some (.pointer (some ⟨bb, 0, none⟩)) := Blk.cell (hj rfl) 0; go_simp; rfl) ?_
  refine wpFl_op _ _ _ _ rfl rfl (fun ω hj => by have q0 : ω.cell? ⟨w.heap.size, 0, none⟩ = some (.pointer (some ⟨bb, 0, none⟩)) := Blk.cell (hj rfl) 0; have q1 : ω.cell? ⟨w.heap.size, 1, none⟩ = some (.int .i64 40) := Blk.cell (hj rfl) 1; have q2 : ω.cell? ⟨w.heap.size, 2, none⟩ = some (.int .i64 3) := Blk.cell (hj rfl) 2; go_simp; rfl) ?_
  refine wpFl_op _ _ _ _ rfl rfl (fun ω hj => by go_simp; rfl) ?_
  refine wpFl_op _ _ _ _ rfl rfl (fun ω hj => by go_simp; rfl) ?_
  refine wpFl_op _ _ _ _ rfl rfl (fun ω hj => by go_simp; rfl) ?_
  refine wpFl_nil _ _ ?_
  simp only [Act.put, List.setIfInBounds_toArray]
  have HX14 : Hid (LR w v13.drew w.heap.size ib bb cb fv #[.pointer (some ⟨bb, 0, none⟩), .int .i64 40, .int .i64 3] #[.int .u32 x0, .int .u32 x1, .int .u32 x2] (((B).set 43 ((B).get 40)).set 44 (((B).set 43 ((B).get 40)).get 41))) := HX13.out.drew
  clear HX13
  refine wpCh_one _ _ _ _ rfl ?_
  have HS : Hid (Calls Try.prog 78 #[.agg #[.pointer (some ⟨bb, 0, none⟩), .int .i64 40, .int .i64 3], .int .i64 1, .int .i64 2] v13.drew fun e w' => e = .returned (.int .i64 45) ∧ Below (v13.drew).heap.size (v13.drew) w') := site_any bb 40 3 1 2 (by decide) (by decide) (by decide) (by decide) v13.drew
  go_wp2_with fail
  refine HS.out.mono ?_
  rintro e v15 ⟨rfl, hb15⟩
  have HX15 : Hid (LR w v15 w.heap.size ib bb cb fv #[.pointer (some ⟨bb, 0, none⟩), .int .i64 40, .int .i64 3] #[.int .u32 x0, .int .u32 x1, .int .u32 x2] (((B).set 43 ((B).get 40)).set 44 (((B).set 43 ((B).get 40)).get 41))) := HX14.out.below hb15
  clear hb15 HS HX14
  go_wp2_with fail
  refine ⟨HX15.out.hl, ?_⟩
  refine wpCh_one _ _ _ _ rfl ?_
  have HS : Hid (Calls Try.prog 78 #[.agg #[.pointer (some ⟨bb, 0, none⟩), .int .i64 40, .int .i64 3], .int .i64 0, .int .i64 2] v15 fun e w' => e = .returned (.int .i64 42) ∧ Below (v15).heap.size (v15) w') := site_any bb 40 3 0 2 (by decide) (by decide) (by decide) (by decide) v15
  go_wp2_with fail
  refine HS.out.mono ?_
  rintro e v16 ⟨rfl, hb16⟩
  have HX16 : Hid (LR w v16 w.heap.size ib bb cb fv #[.pointer (some ⟨bb, 0, none⟩), .int .i64 40, .int .i64 3] #[.int .u32 x0, .int .u32 x1, .int .u32 x2] (((B).set 43 ((B).get 40)).set 44 (((B).set 43 ((B).get 40)).get 41))) := HX15.out.below hb16
  clear hb16 HS HX15
  go_wp2_with fail
  refine ⟨HX16.out.hl, ?_⟩
  refine wpCh_one _ _ _ _ rfl ?_
  have HG : Hid (Calls Try.prog 58 #[.pointer (some ⟨bb, 0, none⟩), .int .i64 42] v16 fun e w' => e = .returned (.int .u32 ((((B).set 43 ((B).get 40)).set 44 (((B).set 43 ((B).get 40)).get 41)).get 42)) ∧ Below (v16).heap.size (v16) w') := get_any bb cb 42 (by decide) fv (((B).set 43 ((B).get 40)).set 44 (((B).set 43 ((B).get 40)).get 41)) v16 HX16.out.br
  go_wp2_with fail
  refine HG.out.mono ?_
  rintro e v17 ⟨rfl, hb17⟩
  have HX17 : Hid (LR w v17 w.heap.size ib bb cb fv #[.pointer (some ⟨bb, 0, none⟩), .int .i64 40, .int .i64 3] #[.int .u32 x0, .int .u32 x1, .int .u32 x2] (((B).set 43 ((B).get 40)).set 44 (((B).set 43 ((B).get 40)).get 41))) := HX16.out.below hb17
  clear hb17 HG HX16
  go_wp2_with fail
  refine ⟨HX17.out.hl, ?_⟩
  refine wpCh_rest _ _ _ _ [_] _ _ rfl (by kernel_rfl) ?_
  simp only [List.getElem_toArray, List.getElem_cons_succ, List.getElem_cons_zero]
  have HS : Hid (Calls Try.prog 67 #[.pointer (some ⟨bb, 0, none⟩), .int .i64 45, .int .u32 ((((B).set 43 ((B).get 40)).set 44 (((B).set 43 ((B).get 40)).get 41)).get 42)] v17 fun e w' => e = .returned (.tuple #[]) ∧ ∃ w0, Below (v17).heap.size (v17) w0 ∧ w' = put w0 cb (encK ((((B).set 43 ((B).get 40)).set 44 (((B).set 43 ((B).get 40)).get 41)).set 45 ((((B).set 43 ((B).get 40)).set 44 (((B).set 43 ((B).get 40)).get 41)).get 42)).c) 30) := bset_any bb cb 45 (by decide) fv (((B).set 43 ((B).get 40)).set 44 (((B).set 43 ((B).get 40)).get 41)) ((((B).set 43 ((B).get 40)).set 44 (((B).set 43 ((B).get 40)).get 41)).get 42) v17 HX17.out.br
  go_wp2_with fail
  refine HS.out.mono ?_
  rintro e v18 ⟨rfl, u18, hb18, hw18⟩
  have HX18 : Hid (LR w v18 w.heap.size ib bb cb fv #[.pointer (some ⟨bb, 0, none⟩), .int .i64 40, .int .i64 3] #[.int .u32 x0, .int .u32 x1, .int .u32 x2] ((((B).set 43 ((B).get 40)).set 44 (((B).set 43 ((B).get 40)).get 41)).set 45 ((((B).set 43 ((B).get 40)).set 44 (((B).set 43 ((B).get 40)).get 41)).get 42))) := by
    rw [hw18]; exact HX17.out.set hb18 _ _
  clear hb18 hw18 HS HX17
  go_wp2_with fail
  rw [rounds_succ]
  have c2 : v18.cell? ⟨w.heap.size, 2, none⟩ = some (.int .i64 3) := HX18.out.hl.cell 2
  go_wp2_with fail
  clear c2
  rw [rounds_succ]
  go_wp2_with fail
  refine wp_loop_rounds 4 ?_
  rw [rounds_succ]
  have i0 : v18.cell? ⟨ib, 0, none⟩ = some (.int .u32 x0) := HX18.out.hi.cell 0
  go_upto_region 11 with fail
  clear i0
  refine wp_region_float [0, 1, 2, 3, 5] [4, 6] [0, 3, 5] mixed (fun ω => Blk ω w.heap.size #[.pointer (some ⟨bb, 0, none⟩), .int .i64 40, .int .i64 3] 91) (by kernel_rfl) rfl (by kernel_rfl) HX18.out.drew.hl ?_
  refine wpFl_op _ _ _ _ rfl rfl (fun ω hj => by go_simp; rfl) ?_
  refine wpFl_op _ _ _ _ rfl rfl (fun ω hj => by have q : ω.cell? ⟨w.heap.size, 0, none⟩ = some (.pointer (some ⟨bb, 0, none⟩)) := Blk.cell (hj rfl) 0; go_simp; rfl) ?_
  refine wpFl_op _ _ _ _ rfl rfl (fun ω hj => by have q0 : ω.cell? ⟨w.heap.size, 0, none⟩ = some (.pointer (some ⟨bb, 0, none⟩)) := Blk.cell (hj rfl) 0; have q1 : ω.cell? ⟨w.heap.size, 1, none⟩ = some (.int .i64 40) := Blk.cell (hj rfl) 1; have q2 : ω.cell? ⟨w.heap.size, 2, none⟩ = some (.int .i64 3) := Blk.cell (hj rfl) 2; go_simp; rfl) ?_
  refine wpFl_op _ _ _ _ rfl rfl (fun ω hj => by go_simp; rfl) ?_
  refine wpFl_op _ _ _ _ rfl rfl (fun ω hj => by go_simp; rfl) ?_
  refine wpFl_nil _ _ ?_
  simp only [Act.put, List.setIfInBounds_toArray]
  have HX19 : Hid (LR w v18.drew w.heap.size ib bb cb fv #[.pointer (some ⟨bb, 0, none⟩), .int .i64 40, .int .i64 3] #[.int .u32 x0, .int .u32 x1, .int .u32 x2] ((((B).set 43 ((B).get 40)).set 44 (((B).set 43 ((B).get 40)).get 41)).set 45 ((((B).set 43 ((B).get 40)).set 44 (((B).set 43 ((B).get 40)).get 41)).get 42))) := HX18.out.drew
  clear HX18
  refine wpCh_one _ _ _ _ rfl ?_
  have HS : Hid (Calls Try.prog 78 #[.agg #[.pointer (some ⟨bb, 0, none⟩), .int .i64 40, .int .i64 3], .int .i64 0, .int .i64 0] v18.drew fun e w' => e = .returned (.int .i64 40) ∧ Below (v18.drew).heap.size (v18.drew) w') := site_any bb 40 3 0 0 (by decide) (by decide) (by decide) (by decide) v18.drew
  go_wp2_with fail
  refine HS.out.mono ?_
  rintro e v20 ⟨rfl, hb20⟩
  have HX20 : Hid (LR w v20 w.heap.size ib bb cb fv #[.pointer (some ⟨bb, 0, none⟩), .int .i64 40, .int .i64 3] #[.int .u32 x0, .int .u32 x1, .int .u32 x2] ((((B).set 43 ((B).get 40)).set 44 (((B).set 43 ((B).get 40)).get 41)).set 45 ((((B).set 43 ((B).get 40)).set 44 (((B).set 43 ((B).get 40)).get 41)).get 42))) := HX19.out.below hb20
  clear hb20 HS HX19
  go_wp2_with fail
  refine ⟨HX20.out.hl, ?_⟩
  refine wpCh_rest _ _ _ _ [_] _ _ rfl (by kernel_rfl) ?_
  simp only [List.getElem_toArray, List.getElem_cons_succ, List.getElem_cons_zero]
  have HS : Hid (Calls Try.prog 67 #[.pointer (some ⟨bb, 0, none⟩), .int .i64 40, .int .u32 (x0)] v20 fun e w' => e = .returned (.tuple #[]) ∧ ∃ w0, Below (v20).heap.size (v20) w0 ∧ w' = put w0 cb (encK (((((B).set 43 ((B).get 40)).set 44 (((B).set 43 ((B).get 40)).get 41)).set 45 ((((B).set 43 ((B).get 40)).set 44 (((B).set 43 ((B).get 40)).get 41)).get 42)).set 40 (x0)).c) 30) := bset_any bb cb 40 (by decide) fv ((((B).set 43 ((B).get 40)).set 44 (((B).set 43 ((B).get 40)).get 41)).set 45 ((((B).set 43 ((B).get 40)).set 44 (((B).set 43 ((B).get 40)).get 41)).get 42)) (x0) v20 HX20.out.br
  go_wp2_with fail
  refine HS.out.mono ?_
  rintro e v21 ⟨rfl, u21, hb21, hw21⟩
  have HX21 : Hid (LR w v21 w.heap.size ib bb cb fv #[.pointer (some ⟨bb, 0, none⟩), .int .i64 40, .int .i64 3] #[.int .u32 x0, .int .u32 x1, .int .u32 x2] (((((B).set 43 ((B).get 40)).set 44 (((B).set 43 ((B).get 40)).get 41)).set 45 ((((B).set 43 ((B).get 40)).set 44 (((B).set 43 ((B).get 40)).get 41)).get 42)).set 40 (x0))) := by
    rw [hw21]; exact HX20.out.set hb21 _ _
  clear hb21 hw21 HS HX20
  go_wp2_with fail
  rw [rounds_succ]
  have i1 : v21.cell? ⟨ib, 1, none⟩ = some (.int .u32 x1) := HX21.out.hi.cell 1
  go_upto_region 11 with fail
  clear i1
  refine wp_region_float [0, 1, 2, 3, 5] [4, 6] [0, 3, 5] mixed (fun ω => Blk ω w.heap.size #[.pointer (some ⟨bb, 0, none⟩), .int .i64 40, .int .i64 3] 91) (by kernel_rfl) rfl (by kernel_rfl) HX21.out.drew.hl ?_
  refine wpFl_op _ _ _ _ rfl rfl (fun ω hj => by go_simp; rfl) ?_
  refine wpFl_op _ _ _ _ rfl rfl (fun ω hj => by have q : ω.cell? ⟨w.heap.size, 0, none⟩ = some (.pointer (some ⟨bb, 0, none⟩)) := Blk.cell (hj rfl) 0; go_simp; rfl) ?_
  refine wpFl_op _ _ _ _ rfl rfl (fun ω hj => by have q0 : ω.cell? ⟨w.heap.size, 0, none⟩ = some (.pointer (some ⟨bb, 0, none⟩)) := Blk.cell (hj rfl) 0; have q1 : ω.cell? ⟨w.heap.size, 1, none⟩ = some (.int .i64 40) := Blk.cell (hj rfl) 1; have q2 : ω.cell? ⟨w.heap.size, 2, none⟩ = some (.int .i64 3) := Blk.cell (hj rfl) 2; go_simp; rfl) ?_
  refine wpFl_op _ _ _ _ rfl rfl (fun ω hj => by go_simp; rfl) ?_
  refine wpFl_op _ _ _ _ rfl rfl (fun ω hj => by go_simp; rfl) ?_
  refine wpFl_nil _ _ ?_
  simp only [Act.put, List.setIfInBounds_toArray]
  have HX22 : Hid (LR w v21.drew w.heap.size ib bb cb fv #[.pointer (some ⟨bb, 0, none⟩), .int .i64 40, .int .i64 3] #[.int .u32 x0, .int .u32 x1, .int .u32 x2] (((((B).set 43 ((B).get 40)).set 44 (((B).set 43 ((B).get 40)).get 41)).set 45 ((((B).set 43 ((B).get 40)).set 44 (((B).set 43 ((B).get 40)).get 41)).get 42)).set 40 (x0))) := HX21.out.drew
  clear HX21
  refine wpCh_one _ _ _ _ rfl ?_
  have HS : Hid (Calls Try.prog 78 #[.agg #[.pointer (some ⟨bb, 0, none⟩), .int .i64 40, .int .i64 3], .int .i64 0, .int .i64 1] v21.drew fun e w' => e = .returned (.int .i64 41) ∧ Below (v21.drew).heap.size (v21.drew) w') := site_any bb 40 3 0 1 (by decide) (by decide) (by decide) (by decide) v21.drew
  go_wp2_with fail
  refine HS.out.mono ?_
  rintro e v23 ⟨rfl, hb23⟩
  have HX23 : Hid (LR w v23 w.heap.size ib bb cb fv #[.pointer (some ⟨bb, 0, none⟩), .int .i64 40, .int .i64 3] #[.int .u32 x0, .int .u32 x1, .int .u32 x2] (((((B).set 43 ((B).get 40)).set 44 (((B).set 43 ((B).get 40)).get 41)).set 45 ((((B).set 43 ((B).get 40)).set 44 (((B).set 43 ((B).get 40)).get 41)).get 42)).set 40 (x0))) := HX22.out.below hb23
  clear hb23 HS HX22
  go_wp2_with fail
  refine ⟨HX23.out.hl, ?_⟩
  refine wpCh_rest _ _ _ _ [_] _ _ rfl (by kernel_rfl) ?_
  simp only [List.getElem_toArray, List.getElem_cons_succ, List.getElem_cons_zero]
  have HS : Hid (Calls Try.prog 67 #[.pointer (some ⟨bb, 0, none⟩), .int .i64 41, .int .u32 (x1)] v23 fun e w' => e = .returned (.tuple #[]) ∧ ∃ w0, Below (v23).heap.size (v23) w0 ∧ w' = put w0 cb (encK ((((((B).set 43 ((B).get 40)).set 44 (((B).set 43 ((B).get 40)).get 41)).set 45 ((((B).set 43 ((B).get 40)).set 44 (((B).set 43 ((B).get 40)).get 41)).get 42)).set 40 (x0)).set 41 (x1)).c) 30) := bset_any bb cb 41 (by decide) fv (((((B).set 43 ((B).get 40)).set 44 (((B).set 43 ((B).get 40)).get 41)).set 45 ((((B).set 43 ((B).get 40)).set 44 (((B).set 43 ((B).get 40)).get 41)).get 42)).set 40 (x0)) (x1) v23 HX23.out.br
  go_wp2_with fail
  refine HS.out.mono ?_
  rintro e v24 ⟨rfl, u24, hb24, hw24⟩
  have HX24 : Hid (LR w v24 w.heap.size ib bb cb fv #[.pointer (some ⟨bb, 0, none⟩), .int .i64 40, .int .i64 3] #[.int .u32 x0, .int .u32 x1, .int .u32 x2] ((((((B).set 43 ((B).get 40)).set 44 (((B).set 43 ((B).get 40)).get 41)).set 45 ((((B).set 43 ((B).get 40)).set 44 (((B).set 43 ((B).get 40)).get 41)).get 42)).set 40 (x0)).set 41 (x1))) := by
    rw [hw24]; exact HX23.out.set hb24 _ _
  clear hb24 hw24 HS HX23
  go_wp2_with fail
  rw [rounds_succ]
  have i2 : v24.cell? ⟨ib, 2, none⟩ = some (.int .u32 x2) := HX24.out.hi.cell 2
  go_upto_region 11 with fail
  clear i2
  refine wp_region_float [0, 1, 2, 3, 5] [4, 6] [0, 3, 5] mixed (fun ω => Blk ω w.heap.size #[.pointer (some ⟨bb, 0, none⟩), .int .i64 40, .int .i64 3] 91) (by kernel_rfl) rfl (by kernel_rfl) HX24.out.drew.hl ?_
  refine wpFl_op _ _ _ _ rfl rfl (fun ω hj => by go_simp; rfl) ?_
  refine wpFl_op _ _ _ _ rfl rfl (fun ω hj => by have q : ω.cell? ⟨w.heap.size, 0, none⟩ = some (.pointer (some ⟨bb, 0, none⟩)) := Blk.cell (hj rfl) 0; go_simp; rfl) ?_
  refine wpFl_op _ _ _ _ rfl rfl (fun ω hj => by have q0 : ω.cell? ⟨w.heap.size, 0, none⟩ = some (.pointer (some ⟨bb, 0, none⟩)) := Blk.cell (hj rfl) 0; have q1 : ω.cell? ⟨w.heap.size, 1, none⟩ = some (.int .i64 40) := Blk.cell (hj rfl) 1; have q2 : ω.cell? ⟨w.heap.size, 2, none⟩ = some (.int .i64 3) := Blk.cell (hj rfl) 2; go_simp; rfl) ?_
  refine wpFl_op _ _ _ _ rfl rfl (fun ω hj => by go_simp; rfl) ?_
  refine wpFl_op _ _ _ _ rfl rfl (fun ω hj => by go_simp; rfl) ?_
  refine wpFl_nil _ _ ?_
  simp only [Act.put, List.setIfInBounds_toArray]
  have HX25 : Hid (LR w v24.drew w.heap.size ib bb cb fv #[.pointer (some ⟨bb, 0, none⟩), .int .i64 40, .int .i64 3] #[.int .u32 x0, .int .u32 x1, .int .u32 x2] ((((((B).set 43 ((B).get 40)).set 44 (((B).set 43 ((B).get 40)).get 41)).set 45 ((((B).set 43 ((B).get 40)).set 44 (((B).set 43 ((B).get 40)).get 41)).get 42)).set 40 (x0)).set 41 (x1))) := HX24.out.drew
  clear HX24
  refine wpCh_one _ _ _ _ rfl ?_
  have HS : Hid (Calls Try.prog 78 #[.agg #[.pointer (some ⟨bb, 0, none⟩), .int .i64 40, .int .i64 3], .int .i64 0, .int .i64 2] v24.drew fun e w' => e = .returned (.int .i64 42) ∧ Below (v24.drew).heap.size (v24.drew) w') := site_any bb 40 3 0 2 (by decide) (by decide) (by decide) (by decide) v24.drew
  go_wp2_with fail
  refine HS.out.mono ?_
  rintro e v26 ⟨rfl, hb26⟩
  have HX26 : Hid (LR w v26 w.heap.size ib bb cb fv #[.pointer (some ⟨bb, 0, none⟩), .int .i64 40, .int .i64 3] #[.int .u32 x0, .int .u32 x1, .int .u32 x2] ((((((B).set 43 ((B).get 40)).set 44 (((B).set 43 ((B).get 40)).get 41)).set 45 ((((B).set 43 ((B).get 40)).set 44 (((B).set 43 ((B).get 40)).get 41)).get 42)).set 40 (x0)).set 41 (x1))) := HX25.out.below hb26
  clear hb26 HS HX25
  go_wp2_with fail
  refine ⟨HX26.out.hl, ?_⟩
  refine wpCh_rest _ _ _ _ [_] _ _ rfl (by kernel_rfl) ?_
  simp only [List.getElem_toArray, List.getElem_cons_succ, List.getElem_cons_zero]
  have HS : Hid (Calls Try.prog 67 #[.pointer (some ⟨bb, 0, none⟩), .int .i64 42, .int .u32 (x2)] v26 fun e w' => e = .returned (.tuple #[]) ∧ ∃ w0, Below (v26).heap.size (v26) w0 ∧ w' = put w0 cb (encK (((((((B).set 43 ((B).get 40)).set 44 (((B).set 43 ((B).get 40)).get 41)).set 45 ((((B).set 43 ((B).get 40)).set 44 (((B).set 43 ((B).get 40)).get 41)).get 42)).set 40 (x0)).set 41 (x1)).set 42 (x2)).c) 30) := bset_any bb cb 42 (by decide) fv ((((((B).set 43 ((B).get 40)).set 44 (((B).set 43 ((B).get 40)).get 41)).set 45 ((((B).set 43 ((B).get 40)).set 44 (((B).set 43 ((B).get 40)).get 41)).get 42)).set 40 (x0)).set 41 (x1)) (x2) v26 HX26.out.br
  go_wp2_with fail
  refine HS.out.mono ?_
  rintro e v27 ⟨rfl, u27, hb27, hw27⟩
  have HX27 : Hid (LR w v27 w.heap.size ib bb cb fv #[.pointer (some ⟨bb, 0, none⟩), .int .i64 40, .int .i64 3] #[.int .u32 x0, .int .u32 x1, .int .u32 x2] (((((((B).set 43 ((B).get 40)).set 44 (((B).set 43 ((B).get 40)).get 41)).set 45 ((((B).set 43 ((B).get 40)).set 44 (((B).set 43 ((B).get 40)).get 41)).get 42)).set 40 (x0)).set 41 (x1)).set 42 (x2))) := by
    rw [hw27]; exact HX26.out.set hb27 _ _
  clear hb27 hw27 HS HX26
  go_wp2_with fail
  rw [rounds_succ]
  go_wp2_with fail
  exact bodyPost_end (v := .tuple #[]) (results_none rfl _ _ _) rfl ⟨rfl, HX27.out.tn⟩
end Go.Proofs.Qxb6500749a
