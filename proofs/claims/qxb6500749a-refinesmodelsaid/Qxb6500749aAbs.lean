import Derived.Test.Qxb6500749aDmr
import Derived.LoopN
namespace Go.Proofs.Qxb6500749a
open Go.RowKit
attribute [local go_sem] put_size put_cell_same put_cell_ne put_frozen_same put_frozen_ne put_setCell_same put_setCell_ne put_drew
attribute [local go_sem] drewN_setCell drewN_alloc drewN_put
/-! ### The end of a transfer booked -/
set_option maxRecDepth 100000 in
set_option maxHeartbeats 4000000 in
theorem abs_f0 (db bb cb ub : Nat) (fv : Value) (st desc : Int) (fet : Nat) (buf : Int) (wai : Bool) (B : BD) (x : Int) (hf : fet + 1 < 4) (w : World) (hd : Blk w db (dmaV bb ub ⟨st, 0, desc, fet, buf, wai⟩) 97) (hb : BR w bb cb fv B) :
    Calls Try.prog 71 #[.pointer (some ⟨db, 0, none⟩), .int .u32 x] w fun e w' => e = .returned (.tuple #[]) ∧ Blk w' db (dmaV bb ub ⟨st, 0, desc, fet + 1, buf, wai⟩) 97 ∧ BR w' bb cb fv (B.set (49 + fet) x) ∧ Fr (fun k => k = db ∨ k = cb) w w' := by
  have hne : db ≠ cb := hd.neT hb.cel (by decide)
  have hnb : bb ≠ db := hb.blk.neT hd (by decide)
  have c3 : w.cell? ⟨db, 3, none⟩ = some (.int .u8 0) := hd.cell 3
  have H := hid_of hd
  have HB := hid_of hb
  clear hd hb
  have HS : Hid (Calls Try.prog 67 #[.pointer (some ⟨bb, 0, none⟩), .int .i64 (49 + ((fet : Nat) : Int)), .int .u32 x] w.drew fun e w' => e = .returned (.tuple #[]) ∧ ∃ w0, Below w.drew.heap.size w.drew w0 ∧ w' = put w0 cb (encK (B.set (49 + fet) x).c) 30) := by
    have h9 := bset_any bb cb (49 + fet) (by omega) fv B x w.drew HB.out.drew'
    rw [show (((49 + fet : Nat)) : Int) = 49 + ((fet : Nat) : Int) by omega] at h9
    exact h9
  have hwr : IntKind.i64.wrap (49 + ((fet : Nat) : Int)) = 49 + ((fet : Nat) : Int) := by simp [IntKind.wrap, IntKind.bits, IntKind.signed]; omega
  have hwr1 : IntKind.i64.wrap (((fet : Nat) : Int) + 1) = ((fet : Nat) : Int) + 1 := by simp [IntKind.wrap, IntKind.bits, IntKind.signed]; omega
  have heq : (((fet : Nat) : Int) + 1 == 4) = false := by simp; omega
  have HF := hid_of hf
  clear hf
  go_enter Try.func71, Try.ntmps71
  go_upto_region 2 with fail
  clear c3
  refine wp_region_float [0, 1, 2, 3, 4, 5, 6, 7, 8, 9] [10] [0, 1, 2, 4, 5, 6, 8, 9] mixed (fun ω => ω.cell? ⟨db, 0, none⟩ = some (.pointer (some ⟨bb, 0, none⟩)) ∧ ω.cell? ⟨db, 5, none⟩ = some (.int .i64 (fet : Nat))) (by kernel_rfl) rfl (by kernel_rfl) ⟨H.out.cell 0, H.out.cell 5⟩ ?_
  iterate 10 refine wpFl_op _ _ _ _ rfl rfl (fun ω hj => by
    first
    | (go_simp; rfl)
    | (have j1 := (hj rfl).1
       have j2 := (hj rfl).2
       go_simp; rfl)) ?_
  refine wpFl_nil _ _ ?_
  simp only [Act.put, List.setIfInBounds_toArray]
  refine wpCh_rest _ _ _ _ [_] _ _ rfl (by kernel_rfl) ?_
  simp only [List.getElem_toArray, List.getElem_cons_succ, List.getElem_cons_zero]
  go_wp2_with fail
  refine HS.out.mono ?_
  rintro e w1 ⟨rfl, u1, hb1, hw1⟩
  have HT : Hid (Tn w w1 cb (B.set (49 + fet) x).c) := by
    have h9 : Tn w.drew w1 cb (B.set (49 + fet) x).c := by rw [hw1]; exact Tn.of_put hb1 HB.out.cel.lt _
    exact ⟨h9.os, h9.tape, h9.output, h9.size, h9.block, h9.cel⟩
  have HB1 : Hid (BR w1 bb cb fv (B.set (49 + fet) x)) := by rw [hw1]; exact HB.out.drew'.turn hb1 _ _
  have HD1 : Hid (Blk w1 db (dmaV bb ub ⟨st, 0, desc, fet, buf, wai⟩) 97) := (HT.out.block _ H.out.lt hne).trans H.out
  clear HS hb1 hw1
  obtain ⟨u2, hu2, hl2⟩ := HD1.out.out
  have HFIN : Hid (∀ D' : DD, Blk (put u2 db (dmaV bb ub D') 97) db (dmaV bb ub D') 97 ∧ BR (put u2 db (dmaV bb ub D') 97) bb cb fv (B.set (49 + fet) x) ∧ Fr (fun k => k = db ∨ k = cb) w (put u2 db (dmaV bb ub D') 97)) := fun D' => by
    have f2 := ((Fr.of_tn HT.out).mono (K' := fun k => k = db ∨ k = cb) (fun b _ e => .inr e)).put (b := db) (fun _ => .inl rfl) (dmaV bb ub D') 97
    have hb2 : BR (put w1 db (dmaV bb ub D') 97) bb cb fv (B.set (49 + fet) x) :=
      ⟨HB1.out.blk.put_ne hnb, HB1.out.cel.put_ne (Ne.symm hne), HB1.out.sl.same fun k hk => put_heap_ne _ _ _ _ _ (HD1.out.sl_ne (by decide) HB1.out.sl k hk), HB1.out.ok, HB1.out.len, HB1.out.now⟩
    rw [hu2, put_put] at f2 hb2
    exact ⟨Blk.put_same hl2, hb2, f2⟩
  clear HT HB1 HD1 H HB hnb
  have hu2' : w1 = put u2 db #[.pointer (some ⟨bb, 0, none⟩), .pointer (some ⟨ub, 0, none⟩), .int .u8 st, .int .u8 0, .int .u32 desc, .int .i64 ((fet : Nat) : Int), .int .u32 buf, .bool wai] 97 := hu2
  clear hu2
  subst hu2'
  go_wp2_with fail
  have h9 := HFIN.out ⟨st, 0, desc, fet + 1, buf, wai⟩
  exact bodyPost_end (v := .tuple #[]) (results_none rfl _ _ _) rfl ⟨rfl, h9.1, h9.2.1, h9.2.2⟩
set_option maxRecDepth 100000 in
set_option maxHeartbeats 4000000 in
theorem abs_f1 (db bb cb ub : Nat) (fv : Value) (st desc : Int) (fet : Nat) (buf : Int) (wai : Bool) (B : BD) (x : Int) (hf : fet + 1 = 4) (w : World) (hd : Blk w db (dmaV bb ub ⟨st, 0, desc, fet, buf, wai⟩) 97) (hb : BR w bb cb fv B) :
    Calls Try.prog 71 #[.pointer (some ⟨db, 0, none⟩), .int .u32 x] w fun e w' => e = .returned (.tuple #[]) ∧ Blk w' db (dmaV bb ub ⟨st, 1, desc, fet + 1, buf, wai⟩) 97 ∧ BR w' bb cb fv (B.set (49 + fet) x) ∧ Fr (fun k => k = db ∨ k = cb) w w' := by
  have hne : db ≠ cb := hd.neT hb.cel (by decide)
  have hnb : bb ≠ db := hb.blk.neT hd (by decide)
  have c3 : w.cell? ⟨db, 3, none⟩ = some (.int .u8 0) := hd.cell 3
  have H := hid_of hd
  have HB := hid_of hb
  clear hd hb
  have HS : Hid (Calls Try.prog 67 #[.pointer (some ⟨bb, 0, none⟩), .int .i64 (49 + ((fet : Nat) : Int)), .int .u32 x] w.drew fun e w' => e = .returned (.tuple #[]) ∧ ∃ w0, Below w.drew.heap.size w.drew w0 ∧ w' = put w0 cb (encK (B.set (49 + fet) x).c) 30) := by
    have h9 := bset_any bb cb (49 + fet) (by omega) fv B x w.drew HB.out.drew'
    rw [show (((49 + fet : Nat)) : Int) = 49 + ((fet : Nat) : Int) by omega] at h9
    exact h9
  have hwr : IntKind.i64.wrap (49 + ((fet : Nat) : Int)) = 49 + ((fet : Nat) : Int) := by simp [IntKind.wrap, IntKind.bits, IntKind.signed]; omega
  have hwr1 : IntKind.i64.wrap (((fet : Nat) : Int) + 1) = ((fet : Nat) : Int) + 1 := by simp [IntKind.wrap, IntKind.bits, IntKind.signed]; omega
  have heq : (((fet : Nat) : Int) + 1 == 4) = true := by simp; omega
  have HF := hid_of hf
  clear hf
  go_enter Try.func71, Try.ntmps71
  go_upto_region 2 with fail
  clear c3
  refine wp_region_float [0, 1, 2, 3, 4, 5, 6, 7, 8, 9] [10] [0, 1, 2, 4, 5, 6, 8, 9] mixed (fun ω => ω.cell? ⟨db, 0, none⟩ = some (.pointer (some ⟨bb, 0, none⟩)) ∧ ω.cell? ⟨db, 5, none⟩ = some (.int .i64 (fet : Nat))) (by kernel_rfl) rfl (by kernel_rfl) ⟨H.out.cell 0, H.out.cell 5⟩ ?_
  iterate 10 refine wpFl_op _ _ _ _ rfl rfl (fun ω hj => by
    first
    | (go_simp; rfl)
    | (have j1 := (hj rfl).1
       have j2 := (hj rfl).2
       go_simp; rfl)) ?_
  refine wpFl_nil _ _ ?_
  simp only [Act.put, List.setIfInBounds_toArray]
  refine wpCh_rest _ _ _ _ [_] _ _ rfl (by kernel_rfl) ?_
  simp only [List.getElem_toArray, List.getElem_cons_succ, List.getElem_cons_zero]
  go_wp2_with fail
  refine HS.out.mono ?_
  rintro e w1 ⟨rfl, u1, hb1, hw1⟩
  have HT : Hid (Tn w w1 cb (B.set (49 + fet) x).c) := by
    have h9 : Tn w.drew w1 cb (B.set (49 + fet) x).c := by rw [hw1]; exact Tn.of_put hb1 HB.out.cel.lt _
    exact ⟨h9.os, h9.tape, h9.output, h9.size, h9.block, h9.cel⟩
  have HB1 : Hid (BR w1 bb cb fv (B.set (49 + fet) x)) := by rw [hw1]; exact HB.out.drew'.turn hb1 _ _
  have HD1 : Hid (Blk w1 db (dmaV bb ub ⟨st, 0, desc, fet, buf, wai⟩) 97) := (HT.out.block _ H.out.lt hne).trans H.out
  clear HS hb1 hw1
  obtain ⟨u2, hu2, hl2⟩ := HD1.out.out
  have HFIN : Hid (∀ D' : DD, Blk (put u2 db (dmaV bb ub D') 97) db (dmaV bb ub D') 97 ∧ BR (put u2 db (dmaV bb ub D') 97) bb cb fv (B.set (49 + fet) x) ∧ Fr (fun k => k = db ∨ k = cb) w (put u2 db (dmaV bb ub D') 97)) := fun D' => by
    have f2 := ((Fr.of_tn HT.out).mono (K' := fun k => k = db ∨ k = cb) (fun b _ e => .inr e)).put (b := db) (fun _ => .inl rfl) (dmaV bb ub D') 97
    have hb2 : BR (put w1 db (dmaV bb ub D') 97) bb cb fv (B.set (49 + fet) x) :=
      ⟨HB1.out.blk.put_ne hnb, HB1.out.cel.put_ne (Ne.symm hne), HB1.out.sl.same fun k hk => put_heap_ne _ _ _ _ _ (HD1.out.sl_ne (by decide) HB1.out.sl k hk), HB1.out.ok, HB1.out.len, HB1.out.now⟩
    rw [hu2, put_put] at f2 hb2
    exact ⟨Blk.put_same hl2, hb2, f2⟩
  clear HT HB1 HD1 H HB hnb
  have hu2' : w1 = put u2 db #[.pointer (some ⟨bb, 0, none⟩), .pointer (some ⟨ub, 0, none⟩), .int .u8 st, .int .u8 0, .int .u32 desc, .int .i64 ((fet : Nat) : Int), .int .u32 buf, .bool wai] 97 := hu2
  clear hu2
  subst hu2'
  go_wp2_with fail
  have h9 := HFIN.out ⟨st, 1, desc, fet + 1, buf, wai⟩
  exact bodyPost_end (v := .tuple #[]) (results_none rfl _ _ _) rfl ⟨rfl, h9.1, h9.2.1, h9.2.2⟩
set_option maxRecDepth 100000 in
set_option maxHeartbeats 4000000 in
theorem abs_r (db bb cb ub : Nat) (fv : Value) (st desc : Int) (fet : Nat) (buf : Int) (wai : Bool) (B : BD) (x : Int)  (w : World) (hd : Blk w db (dmaV bb ub ⟨st, 1, desc, fet, buf, wai⟩) 97) (hb : BR w bb cb fv B) :
    Calls Try.prog 71 #[.pointer (some ⟨db, 0, none⟩), .int .u32 x] w fun e w' => e = .returned (.tuple #[]) ∧ Blk w' db (dmaV bb ub ⟨st, 2, desc, fet, x, wai⟩) 97 ∧ BR w' bb cb fv B ∧ Fr (fun k => k = db ∨ k = cb) w w' := by
  have hne : db ≠ cb := hd.neT hb.cel (by decide)
  have hnb : bb ≠ db := hb.blk.neT hd (by decide)
  have c3 : w.cell? ⟨db, 3, none⟩ = some (.int .u8 1) := hd.cell 3
  have H := hid_of hd
  have HB := hid_of hb
  clear hd hb
  obtain ⟨u2, hu2, hl2⟩ := H.out.out
  have HFIN : Hid (∀ D' : DD, Blk (put u2 db (dmaV bb ub D') 97) db (dmaV bb ub D') 97 ∧ BR (put u2 db (dmaV bb ub D') 97) bb cb fv B ∧ Fr (fun k => k = db ∨ k = cb) w (put u2 db (dmaV bb ub D') 97)) := fun D' => by
    have f2 := (Fr.refl (fun k => k = db ∨ k = cb) w).put (b := db) (fun _ => .inl rfl) (dmaV bb ub D') 97
    have hb2 : BR (put w db (dmaV bb ub D') 97) bb cb fv B :=
      ⟨HB.out.blk.put_ne hnb, HB.out.cel.put_ne (Ne.symm hne), HB.out.sl.same fun k hk => put_heap_ne _ _ _ _ _ (H.out.sl_ne (by decide) HB.out.sl k hk), HB.out.ok, HB.out.len, HB.out.now⟩
    refine ⟨Blk.put_same hl2, ?_, ?_⟩
    · have := hb2; rw [hu2, put_put] at this; exact this
    · have := f2
      conv at this => arg 3; rw [hu2]
      rw [put_put] at this; exact this
  have HU2 : Hid (w = put u2 db #[.pointer (some ⟨bb, 0, none⟩), .pointer (some ⟨ub, 0, none⟩), .int .u8 st, .int .u8 1, .int .u32 desc, .int .i64 ((fet : Nat) : Int), .int .u32 buf, .bool wai] 97) := hu2
  clear H HB hu2
  go_enter Try.func71, Try.ntmps71
  go_upto_region 7 with fail
  rw [HU2.out]
  go_wp2_with fail
  have h9 := HFIN.out ⟨st, 2, desc, fet, x, wai⟩
  exact bodyPost_end (v := .tuple #[]) (results_none rfl _ _ _) rfl ⟨rfl, h9.1, h9.2.1, by have := h9.2.2; rw [HU2.out] at this ⊢; exact this⟩
set_option maxRecDepth 100000 in
set_option maxHeartbeats 4000000 in
theorem abs_w (db bb cb ub : Nat) (fv : Value) (st desc : Int) (fet : Nat) (buf : Int) (wai : Bool) (B : BD) (x : Int) (hB : B.Ok) (w : World) (hd : Blk w db (dmaV bb ub ⟨st, 2, desc, fet, buf, wai⟩) 97) (hb : BR w bb cb fv B) :
    Calls Try.prog 71 #[.pointer (some ⟨db, 0, none⟩), .int .u32 x] w fun e w' => e = .returned (.tuple #[]) ∧ Blk w' db (dmaV bb ub ⟨st, 1, desc, fet, buf, wai⟩) 97 ∧ BR w' bb cb fv ((B.set 53 ((B.get 53 + 1) % 4294967296)).set 54 (((B.set 53 ((B.get 53 + 1) % 4294967296)).get 54 + 1) % 4294967296)) ∧ Fr (fun k => k = db ∨ k = cb) w w' := by
  have hne : db ≠ cb := hd.neT hb.cel (by decide)
  have hnb : bb ≠ db := hb.blk.neT hd (by decide)
  have c3 : w.cell? ⟨db, 3, none⟩ = some (.int .u8 2) := hd.cell 3
  have H := hid_of hd
  have HB := hid_of hb
  clear hd hb
  have HB0 := HB
  have HD0 := H
  have HBO := hid_of hB
  clear HB hB
  go_enter Try.func71, Try.ntmps71
  go_upto_region 9 with fail
  have HG0 := hid_of (get_any bb cb 53 (by decide) fv B w.drew HB0.out.drew')
  obtain ⟨g0, hg0⟩ : ∃ g, (B.get 53 + 1) % 4294967296 = g := ⟨_, rfl⟩
  obtain ⟨y0, hy0⟩ : ∃ y, B.get 53 = y := ⟨_, rfl⟩
  rw [hy0] at HG0 hg0
  refine wp_region_float [0, 1, 2, 3, 4, 5, 6, 7] [8, 9, 10] [0, 1, 2, 4, 5, 6] mixed (fun ω => ω.cell? ⟨db, 0, none⟩ = some (.pointer (some ⟨bb, 0, none⟩))) (by kernel_rfl) rfl (by kernel_rfl) (HD0.out.cell 0) ?_
  iterate 8 refine wpFl_op _ _ _ _ rfl rfl (fun ω hj => by
    first
    | (go_simp; rfl)
    | (have j1 := hj rfl
       go_simp; rfl)) ?_
  refine wpFl_nil _ _ ?_
  simp only [Act.put, List.setIfInBounds_toArray]
  refine wpCh_one _ _ _ _ rfl ?_
  go_wp2_with fail
  refine HG0.out.mono ?_
  rintro e v0 ⟨rfl, hv0⟩
  have hbv0 : BR v0 bb cb fv B := HB0.out.drew'.below hv0
  have HS0 := hid_of (bset_any bb cb 53 (by decide) fv B g0 v0 hbv0)
  have HBV0 := hid_of hbv0
  have HV0 := hid_of hv0
  have HJ0 : Hid (v0.cell? ⟨db, 0, none⟩ = some (.pointer (some ⟨bb, 0, none⟩))) := by
    have h9 : Blk v0 db (dmaV bb ub ⟨st, 2, desc, fet, buf, wai⟩) 97 := (hv0.block _ HD0.out.lt).trans HD0.out
    exact h9.cell 0
  clear HG0 hv0 hbv0
  go_wp2_with fail
  refine ⟨HJ0.out, ?_⟩
  refine wpCh_one _ _ _ _ rfl ?_
  go_wp2_with fail
  refine ⟨HJ0.out, ?_⟩
  refine wpCh_rest _ _ _ _ [_] _ _ rfl (by kernel_rfl) ?_
  simp only [List.getElem_toArray, List.getElem_cons_succ, List.getElem_cons_zero]
  go_wp2_with fail
  refine HS0.out.mono ?_
  rintro e x0 ⟨rfl, u0, hb, hw⟩
  have HT1 : Hid (Tn w x0 cb (B.set 53 ((B.get 53 + 1) % 4294967296)).c) := by
    have h8 : Tn v0 x0 cb (B.set 53 g0).c := by rw [hw]; exact Tn.of_put hb HBV0.out.cel.lt _
    have h7 : Tn w.drew v0 cb B.c := Tn.of_below HV0.out HB0.out.cel
    have h6 : Tn w v0 cb B.c := ⟨h7.os, h7.tape, h7.output, h7.size, h7.block, h7.cel⟩
    have h5 := h6.trans h8
    rw [← hg0, ← hy0] at h5
    exact h5
  have HB1 : Hid (BR x0 bb cb fv (B.set 53 ((B.get 53 + 1) % 4294967296))) := by
    have h5 := HBV0.out.turn hb 53 g0
    rw [← hw] at h5
    rw [← hg0, ← hy0] at h5
    exact h5
  have HD1 : Hid (Blk x0 db (dmaV bb ub ⟨st, 2, desc, fet, buf, wai⟩) 97) := (HT1.out.block _ H.out.lt hne).trans H.out
  clear HS0 hb hw HBV0 HV0 HJ0 HB0 HD0 hg0 hy0
  clear c3
  go_upto_region 10 with fail
  have HG1 := hid_of (get_any bb cb 54 (by decide) fv (B.set 53 ((B.get 53 + 1) % 4294967296)) x0.drew HB1.out.drew')
  obtain ⟨g1, hg1⟩ : ∃ g, ((B.set 53 ((B.get 53 + 1) % 4294967296)).get 54 + 1) % 4294967296 = g := ⟨_, rfl⟩
  obtain ⟨y1, hy1⟩ : ∃ y, (B.set 53 ((B.get 53 + 1) % 4294967296)).get 54 = y := ⟨_, rfl⟩
  rw [hy1] at HG1 hg1
  refine wp_region_float [0, 1, 2, 3, 4, 5, 6, 7] [8, 9, 10] [0, 1, 2, 4, 5, 6] mixed (fun ω => ω.cell? ⟨db, 0, none⟩ = some (.pointer (some ⟨bb, 0, none⟩))) (by kernel_rfl) rfl (by kernel_rfl) (HD1.out.cell 0) ?_
  iterate 8 refine wpFl_op _ _ _ _ rfl rfl (fun ω hj => by
    first
    | (go_simp; rfl)
    | (have j1 := hj rfl
       go_simp; rfl)) ?_
  refine wpFl_nil _ _ ?_
  simp only [Act.put, List.setIfInBounds_toArray]
  refine wpCh_one _ _ _ _ rfl ?_
  go_wp2_with fail
  refine HG1.out.mono ?_
  rintro e v1 ⟨rfl, hv1⟩
  have hbv1 : BR v1 bb cb fv (B.set 53 ((B.get 53 + 1) % 4294967296)) := HB1.out.drew'.below hv1
  have HS1 := hid_of (bset_any bb cb 54 (by decide) fv (B.set 53 ((B.get 53 + 1) % 4294967296)) g1 v1 hbv1)
  have HBV1 := hid_of hbv1
  have HV1 := hid_of hv1
  have HJ1 : Hid (v1.cell? ⟨db, 0, none⟩ = some (.pointer (some ⟨bb, 0, none⟩))) := by
    have h9 : Blk v1 db (dmaV bb ub ⟨st, 2, desc, fet, buf, wai⟩) 97 := (hv1.block _ HD1.out.lt).trans HD1.out
    exact h9.cell 0
  clear HG1 hv1 hbv1
  go_wp2_with fail
  refine ⟨HJ1.out, ?_⟩
  refine wpCh_one _ _ _ _ rfl ?_
  go_wp2_with fail
  refine ⟨HJ1.out, ?_⟩
  refine wpCh_rest _ _ _ _ [_] _ _ rfl (by kernel_rfl) ?_
  simp only [List.getElem_toArray, List.getElem_cons_succ, List.getElem_cons_zero]
  go_wp2_with fail
  refine HS1.out.mono ?_
  rintro e x1 ⟨rfl, u1, hb, hw⟩
  have HT2 : Hid (Tn w x1 cb ((B.set 53 ((B.get 53 + 1) % 4294967296)).set 54 (((B.set 53 ((B.get 53 + 1) % 4294967296)).get 54 + 1) % 4294967296)).c) := by
    have h8 : Tn v1 x1 cb ((B.set 53 ((B.get 53 + 1) % 4294967296)).set 54 g1).c := by rw [hw]; exact Tn.of_put hb HBV1.out.cel.lt _
    have h7 : Tn x0.drew v1 cb (B.set 53 ((B.get 53 + 1) % 4294967296)).c := Tn.of_below HV1.out HB1.out.cel
    have h6 : Tn x0 v1 cb (B.set 53 ((B.get 53 + 1) % 4294967296)).c := ⟨h7.os, h7.tape, h7.output, h7.size, h7.block, h7.cel⟩
    have h5 := (HT1.out.trans h6).trans h8
    rw [← hg1, ← hy1] at h5
    exact h5
  have HB2 : Hid (BR x1 bb cb fv ((B.set 53 ((B.get 53 + 1) % 4294967296)).set 54 (((B.set 53 ((B.get 53 + 1) % 4294967296)).get 54 + 1) % 4294967296))) := by
    have h5 := HBV1.out.turn hb 54 g1
    rw [← hw] at h5
    rw [← hg1, ← hy1] at h5
    exact h5
  have HD2 : Hid (Blk x1 db (dmaV bb ub ⟨st, 2, desc, fet, buf, wai⟩) 97) := (HT2.out.block _ H.out.lt hne).trans H.out
  clear HS1 hb hw HBV1 HV1 HJ1 HB1 HD1 hg1 hy1
  obtain ⟨u2, hu2, hl2⟩ := HD2.out.out
  have HFIN : Hid (∀ D' : DD, Blk (put u2 db (dmaV bb ub D') 97) db (dmaV bb ub D') 97 ∧ BR (put u2 db (dmaV bb ub D') 97) bb cb fv ((B.set 53 ((B.get 53 + 1) % 4294967296)).set 54 (((B.set 53 ((B.get 53 + 1) % 4294967296)).get 54 + 1) % 4294967296)) ∧ Fr (fun k => k = db ∨ k = cb) w (put u2 db (dmaV bb ub D') 97)) := fun D' => by
    have f2 := ((Fr.of_tn HT2.out).mono (K' := fun k => k = db ∨ k = cb) (fun b _ e => .inr e)).put (b := db) (fun _ => .inl rfl) (dmaV bb ub D') 97
    have hb2 : BR (put x1 db (dmaV bb ub D') 97) bb cb fv ((B.set 53 ((B.get 53 + 1) % 4294967296)).set 54 (((B.set 53 ((B.get 53 + 1) % 4294967296)).get 54 + 1) % 4294967296)) :=
      ⟨HB2.out.blk.put_ne hnb, HB2.out.cel.put_ne (Ne.symm hne), HB2.out.sl.same fun k hk => put_heap_ne _ _ _ _ _ (HD2.out.sl_ne (by decide) HB2.out.sl k hk), HB2.out.ok, HB2.out.len, HB2.out.now⟩
    rw [hu2, put_put] at f2 hb2
    exact ⟨Blk.put_same hl2, hb2, f2⟩
  clear HT2 HB2 HD2 H hnb HT1
  have hu2' : x1 = put u2 db #[.pointer (some ⟨bb, 0, none⟩), .pointer (some ⟨ub, 0, none⟩), .int .u8 st, .int .u8 2, .int .u32 desc, .int .i64 ((fet : Nat) : Int), .int .u32 buf, .bool wai] 97 := hu2
  clear hu2
  subst hu2'
  go_wp2_with fail
  have h9 := HFIN.out ⟨st, 1, desc, fet, buf, wai⟩
  exact bodyPost_end (v := .tuple #[]) (results_none rfl _ _ _) rfl ⟨rfl, h9.1, h9.2.1, h9.2.2⟩
theorem absorb_any (db bb cb ub : Nat) (fv : Value) (D : DD) (hD : D.Ok) (B : BD) (hB : B.Ok) (x : Int) (w : World) (hd : Blk w db (dmaV bb ub D) 97) (hb : BR w bb cb fv B) :
    Calls Try.prog 71 #[.pointer (some ⟨db, 0, none⟩), .int .u32 x] w fun e w' => e = .returned (.tuple #[]) ∧ Blk w' db (dmaV bb ub (absD D x)) 97 ∧ BR w' bb cb fv (absB D B x) ∧ Fr (fun k => k = db ∨ k = cb) w w' := by
  have h0 := hD.ph
  have h1 := hD.fet0
  obtain ⟨st, ph, desc, fet, buf, wai⟩ := D
  simp only at h0 h1
  rcases h0 with rfl | rfl | rfl
  · have hf := h1 rfl
    by_cases h4 : fet + 1 = 4
    · refine (abs_f1 db bb cb ub fv st desc fet buf wai B x h4 w hd hb).mono ?_
      rintro e w' ⟨rfl, q1, q2, q3⟩
      refine ⟨rfl, ?_, ?_, q3⟩
      · unfold absD; simp only [if_pos, h4]; rw [h4] at q1; exact q1
      · exact q2
    · refine (abs_f0 db bb cb ub fv st desc fet buf wai B x (by omega) w hd hb).mono ?_
      rintro e w' ⟨rfl, q1, q2, q3⟩
      refine ⟨rfl, ?_, ?_, q3⟩
      · unfold absD; simp only [if_pos, if_neg h4]; exact q1
      · exact q2
  · exact abs_r db bb cb ub fv st desc fet buf wai B x w hd hb
  · exact abs_w db bb cb ub fv st desc fet buf wai B x hB w hd hb
end Go.Proofs.Qxb6500749a
