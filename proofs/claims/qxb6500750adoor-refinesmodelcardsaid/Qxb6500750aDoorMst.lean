import Derived.Test.Qxb6500750aDoorMre2
namespace Go.Proofs.Qxb6500750aDoor
open Go.RowKit
attribute [local go_sem] put_size put_cell_same put_cell_ne put_frozen_same put_frozen_ne put_setCell_same put_setCell_ne put_drew
attribute [local go_sem] drewN_setCell drewN_alloc drewN_put upd_same upd_upd
/-! ### The machine's step -/
set_option maxRecDepth 100000 in
set_option maxHeartbeats 4000000 in
theorem mstep_read {own : Nat → Nat} {mb : Nat} {M : MA} {tb : Nat → Int → Nat} {σ : SS} {w : World} (h : MR own w mb M tb σ) {N : Int} {A : Nat} (hX : XInv N A σ) (o : OpD) (hk : o.k = 0) (ha : 0 ≤ o.a) (hN : N < 4294967295) :
    Calls Tryd.prog 15 #[.pointer (some ⟨mb, 0, none⟩), .agg (opC o)] w fun e w' => e = .returned (.agg (encOb (stepO σ o))) ∧ ∃ own' M' tb', MR own' w' mb M' tb' (stepS σ o) ∧ Ext own own' (fun k => SM k ∨ k = 49 ∨ k = 51) w w' := by
  have e1 : stepO σ o = ⟨decide (3 ≤ o.a), issS σ.x o.a, issQ σ.x o.a, rep0⟩ := by unfold stepO; rw [if_pos (by omega)]
  have e2 : stepS σ o = { σ with x := issX σ.x o.a ⟨false, o.b, 0⟩ } := by unfold stepS; rw [if_pos hk]
  rw [e1, e2]
  clear e1 e2
  obtain ⟨p1, p2, p3, p4, p5⟩ := mr_pre h (opC o) 31
  obtain ⟨W, hW⟩ : ∃ W, ((w.alloc (.cells (opC o) 31)).alloc (.cells (encO false 0 0 rep0) 43)) = W := ⟨_, rfl⟩
  have hWl : ((w.alloc (.cells #[.int .u8 o.k, .int .u32 o.a, .int .u32 o.b, .int .u32 o.c] 31)).alloc (.cells #[.bool false, .int .u8 0, .int .u32 0, .int .i8 0, .int .i8 0, .int .i8 0, .int .i8 0, .int .i8 0, .int .i8 0, .int .i8 0, .bool false, .int .u32 0, .int .u8 0, .int .u32 0, .int .u8 0, .int .u8 0, .bool false, .int .u32 0, .int .u8 0, .int .u32 0, .int .u8 0, .int .u8 0, .bool false, .int .u32 0, .int .u8 0, .int .u32 0, .int .u8 0, .int .u8 0, .int .u8 0, .int .u8 0] 43)) = W := by rw [← hW, encO_zero]; rfl
  rw [hW] at p1 p2 p3 p5
  have hsz : Hid (W.heap.size = w.heap.size + 2) := by unfold Hid; rw [← hW]; simp
  have c0 : W.cell? ⟨w.heap.size, 0, none⟩ = some (.int .u8 0) := by have := p2.cell 0; rw [show (opC o)[0]? = some (.int .u8 o.k) from rfl, hk] at this; exact this
  have c1 : W.cell? ⟨w.heap.size, 1, none⟩ = some (.int .u32 o.a) := p2.cell 1
  have c2 : W.cell? ⟨w.heap.size, 2, none⟩ = some (.int .u32 o.b) := p2.cell 2
  have c3 : W.cell? ⟨w.heap.size, 3, none⟩ = some (.int .u32 o.c) := p2.cell 3
  have P1 := hid_of p1
  have P3 := hid_of p3
  have P5 := hid_of (p5.mono (S' := (fun k => SM k ∨ k = 49 ∨ k = 51)) (fun _ h => h.elim))
  have HO1 := hid_of p4
  obtain ⟨own1, ho1⟩ : ∃ own1, mark own w.heap.size 50 = own1 := ⟨_, rfl⟩
  rw [ho1] at P1 P5 HO1
  clear h p1 p2 p3 p4 p5 hW ho1 hk
  unfold opC
  go_enter Tryd.func15, Tryd.ntmps15
  go_upto_region 1 with fail
  clear hWl
  go_wp2_with fail
  refine (missue_any P1.out hX hN o.a ha ⟨false, o.b, 0⟩).mono ?_
  rintro e w2 ⟨rfl, own2, M2, tb2, h2, hx2⟩
  have HB2 := hid_of (P3.out.ext hx2 (by rw [HO1.out]; unfold SM; omega))
  have ho2 : own2 (w.heap.size + 1) = 50 := (hx2.keep _ P3.out.lt).trans HO1.out
  have HF := hid_of (mr_post h2 ho2 (P5.out.trans (hx2.mono (fun _ q => .inl q))) (Nat.le_succ _) (encO (decide (3 ≤ o.a)) (issS σ.x o.a) (issQ σ.x o.a) rep0))
  clear h2 hx2 c0 c1 c2 c3
  go_wp2_with ((with_reducible show wpList _ _ _ ({ dst := none, op := Op.store 43 _ _, type := _, pos := _, after := _, guard := _ } :: _) _ _); refine wpList_store_row (by rfl) 43 (.tmp 4) (.tmp 16) (by rfl) (w.heap.size + 1) (encO (decide (3 ≤ o.a)) (issS σ.x o.a) (issQ σ.x o.a) rep0) (by rfl) (by rfl) 43 (encO false 0 0 rep0) HB2.out (by rw [Tryd.size43, encO_size]) (by simp only [encO_size]) (encO_one _ _ _ _) ?_; rw [setRow_put HB2.out])
  exact bodyPost_ret (v := .agg (encO (decide (3 ≤ o.a)) (issS σ.x o.a) (issQ σ.x o.a) rep0)) (results_cell_row (by rfl) _ _ (w.heap.size + 1) 43 _ (0, 0) _ (by rfl) (Blk.put_same HB2.out.lt) Tryd.underlying43 rfl (by rw [Tryd.size43, encO_size])) rfl ⟨rfl, own2, M2, tb2, HF.out.1, HF.out.2⟩
set_option maxRecDepth 100000 in
set_option maxHeartbeats 4000000 in
theorem mstep_write {own : Nat → Nat} {mb : Nat} {M : MA} {tb : Nat → Int → Nat} {σ : SS} {w : World} (h : MR own w mb M tb σ) {N : Int} {A : Nat} (hX : XInv N A σ) (o : OpD) (hk : o.k = 1) (ha : 0 ≤ o.a) (hN : N < 4294967295) :
    Calls Tryd.prog 15 #[.pointer (some ⟨mb, 0, none⟩), .agg (opC o)] w fun e w' => e = .returned (.agg (encOb (stepO σ o))) ∧ ∃ own' M' tb', MR own' w' mb M' tb' (stepS σ o) ∧ Ext own own' (fun k => SM k ∨ k = 49 ∨ k = 51) w w' := by
  have e1 : stepO σ o = ⟨decide (3 ≤ o.a), issS σ.x o.a, issQ σ.x o.a, rep0⟩ := by unfold stepO; rw [if_pos (by omega)]
  have e2 : stepS σ o = { σ with x := issX σ.x o.a ⟨true, o.b, o.c⟩ } := by unfold stepS; rw [if_neg (by omega), if_pos hk]
  rw [e1, e2]
  clear e1 e2
  obtain ⟨p1, p2, p3, p4, p5⟩ := mr_pre h (opC o) 31
  obtain ⟨W, hW⟩ : ∃ W, ((w.alloc (.cells (opC o) 31)).alloc (.cells (encO false 0 0 rep0) 43)) = W := ⟨_, rfl⟩
  have hWl : ((w.alloc (.cells #[.int .u8 o.k, .int .u32 o.a, .int .u32 o.b, .int .u32 o.c] 31)).alloc (.cells #[.bool false, .int .u8 0, .int .u32 0, .int .i8 0, .int .i8 0, .int .i8 0, .int .i8 0, .int .i8 0, .int .i8 0, .int .i8 0, .bool false, .int .u32 0, .int .u8 0, .int .u32 0, .int .u8 0, .int .u8 0, .bool false, .int .u32 0, .int .u8 0, .int .u32 0, .int .u8 0, .int .u8 0, .bool false, .int .u32 0, .int .u8 0, .int .u32 0, .int .u8 0, .int .u8 0, .int .u8 0, .int .u8 0] 43)) = W := by rw [← hW, encO_zero]; rfl
  rw [hW] at p1 p2 p3 p5
  have hsz : Hid (W.heap.size = w.heap.size + 2) := by unfold Hid; rw [← hW]; simp
  have c0 : W.cell? ⟨w.heap.size, 0, none⟩ = some (.int .u8 1) := by have := p2.cell 0; rw [show (opC o)[0]? = some (.int .u8 o.k) from rfl, hk] at this; exact this
  have c1 : W.cell? ⟨w.heap.size, 1, none⟩ = some (.int .u32 o.a) := p2.cell 1
  have c2 : W.cell? ⟨w.heap.size, 2, none⟩ = some (.int .u32 o.b) := p2.cell 2
  have c3 : W.cell? ⟨w.heap.size, 3, none⟩ = some (.int .u32 o.c) := p2.cell 3
  have P1 := hid_of p1
  have P3 := hid_of p3
  have P5 := hid_of (p5.mono (S' := (fun k => SM k ∨ k = 49 ∨ k = 51)) (fun _ h => h.elim))
  have HO1 := hid_of p4
  obtain ⟨own1, ho1⟩ : ∃ own1, mark own w.heap.size 50 = own1 := ⟨_, rfl⟩
  rw [ho1] at P1 P5 HO1
  clear h p1 p2 p3 p4 p5 hW ho1 hk
  unfold opC
  go_enter Tryd.func15, Tryd.ntmps15
  go_upto_region 1 with fail
  clear hWl
  go_wp2_with fail
  refine (missue_any P1.out hX hN o.a ha ⟨true, o.b, o.c⟩).mono ?_
  rintro e w2 ⟨rfl, own2, M2, tb2, h2, hx2⟩
  have HB2 := hid_of (P3.out.ext hx2 (by rw [HO1.out]; unfold SM; omega))
  have ho2 : own2 (w.heap.size + 1) = 50 := (hx2.keep _ P3.out.lt).trans HO1.out
  have HF := hid_of (mr_post h2 ho2 (P5.out.trans (hx2.mono (fun _ q => .inl q))) (Nat.le_succ _) (encO (decide (3 ≤ o.a)) (issS σ.x o.a) (issQ σ.x o.a) rep0))
  clear h2 hx2 c0 c1 c2 c3
  go_wp2_with ((with_reducible show wpList _ _ _ ({ dst := none, op := Op.store 43 _ _, type := _, pos := _, after := _, guard := _ } :: _) _ _); refine wpList_store_row (by rfl) 43 (.tmp 4) (.tmp 27) (by rfl) (w.heap.size + 1) (encO (decide (3 ≤ o.a)) (issS σ.x o.a) (issQ σ.x o.a) rep0) (by rfl) (by rfl) 43 (encO false 0 0 rep0) HB2.out (by rw [Tryd.size43, encO_size]) (by simp only [encO_size]) (encO_one _ _ _ _) ?_; rw [setRow_put HB2.out])
  exact bodyPost_ret (v := .agg (encO (decide (3 ≤ o.a)) (issS σ.x o.a) (issQ σ.x o.a) rep0)) (results_cell_row (by rfl) _ _ (w.heap.size + 1) 43 _ (0, 0) _ (by rfl) (Blk.put_same HB2.out.lt) Tryd.underlying43 rfl (by rw [Tryd.size43, encO_size])) rfl ⟨rfl, own2, M2, tb2, HF.out.1, HF.out.2⟩
set_option maxRecDepth 100000 in
set_option maxHeartbeats 4000000 in
theorem mstep_tick {own : Nat → Nat} {mb : Nat} {M : MA} {tb : Nat → Int → Nat} {σ : SS} {w : World} (h : MR own w mb M tb σ) {N : Int} {A : Nat} (hX : XInv N A σ) (o : OpD) (hk : o.k = 3) (ha : 0 ≤ o.a) (hC : Clean σ.x) (hA : A + 14 < 1000000000) (hg : Glb own w) :
    Calls Tryd.prog 15 #[.pointer (some ⟨mb, 0, none⟩), .agg (opC o)] w fun e w' => e = .returned (.agg (encOb (stepO σ o))) ∧ ∃ own' M' tb', MR own' w' mb M' tb' (stepS σ o) ∧ Ext own own' (fun k => SM k ∨ k = 49 ∨ k = 51) w w' := by
  have e1 : stepO σ o = ⟨false, 0, 0, (tickF o.a σ).2⟩ := by unfold stepO; rw [if_neg (by omega), if_neg (by omega), if_pos hk]
  have e2 : stepS σ o = (tickF o.a σ).1 := by unfold stepS; rw [if_neg (by omega), if_neg (by omega), if_neg (by omega), if_pos hk]
  rw [e1, e2]
  clear e1 e2
  have HG0 := hid_of hg
  clear hg
  obtain ⟨p1, p2, p3, p4, p5⟩ := mr_pre h (opC o) 31
  obtain ⟨W, hW⟩ : ∃ W, ((w.alloc (.cells (opC o) 31)).alloc (.cells (encO false 0 0 rep0) 43)) = W := ⟨_, rfl⟩
  have hWl : ((w.alloc (.cells #[.int .u8 o.k, .int .u32 o.a, .int .u32 o.b, .int .u32 o.c] 31)).alloc (.cells #[.bool false, .int .u8 0, .int .u32 0, .int .i8 0, .int .i8 0, .int .i8 0, .int .i8 0, .int .i8 0, .int .i8 0, .int .i8 0, .bool false, .int .u32 0, .int .u8 0, .int .u32 0, .int .u8 0, .int .u8 0, .bool false, .int .u32 0, .int .u8 0, .int .u32 0, .int .u8 0, .int .u8 0, .bool false, .int .u32 0, .int .u8 0, .int .u32 0, .int .u8 0, .int .u8 0, .int .u8 0, .int .u8 0] 43)) = W := by rw [← hW, encO_zero]; rfl
  rw [hW] at p1 p2 p3 p5
  have hsz : Hid (W.heap.size = w.heap.size + 2) := by unfold Hid; rw [← hW]; simp
  have c0 : W.cell? ⟨w.heap.size, 0, none⟩ = some (.int .u8 3) := by have := p2.cell 0; rw [show (opC o)[0]? = some (.int .u8 o.k) from rfl, hk] at this; exact this
  have c1 : W.cell? ⟨w.heap.size, 1, none⟩ = some (.int .u32 o.a) := p2.cell 1
  have c2 : W.cell? ⟨w.heap.size, 2, none⟩ = some (.int .u32 o.b) := p2.cell 2
  have c3 : W.cell? ⟨w.heap.size, 3, none⟩ = some (.int .u32 o.c) := p2.cell 3
  have P1 := hid_of p1
  have P3 := hid_of p3
  have P5 := hid_of (p5.mono (S' := (fun k => SM k ∨ k = 49 ∨ k = 51)) (fun _ h => h.elim))
  have HO1 := hid_of p4
  have HG1 := hid_of (HG0.out.ext p5 (fun h => h))
  obtain ⟨own1, ho1⟩ : ∃ own1, mark own w.heap.size 50 = own1 := ⟨_, rfl⟩
  rw [ho1] at P1 P5 HO1 HG1
  clear h p1 p2 p3 p4 p5 hW ho1 hk
  unfold opC
  go_enter Tryd.func15, Tryd.ntmps15
  go_upto_region 1 with fail
  clear hWl
  go_wp2_with fail
  refine (mtick_any hX hC hA own1 mb M tb o.a W P1.out HG1.out ha).mono ?_
  rintro e w2 ⟨rfl, own2, M2, h2, hx2⟩
  have HB2 := hid_of (P3.out.ext hx2 (by rw [HO1.out]; unfold SM; omega))
  have ho2 : own2 (w.heap.size + 1) = 50 := (hx2.keep _ P3.out.lt).trans HO1.out
  have HF := hid_of (mr_post h2 ho2 (P5.out.trans (hx2.mono (fun _ q => q))) (Nat.le_succ _) (encO false 0 0 (tickF o.a σ).2))
  clear h2 hx2 c0 c1 c2 c3
  rw [encR_lit]
  go_wp2_with ((with_reducible show wpList _ _ _ ({ dst := none, op := Op.store 43 _ _, type := _, pos := _, after := _, guard := _ } :: _) _ _); rw [← encO_litR]; refine wpList_store_row (by rfl) 43 (.tmp 4) (.tmp 81) (by rfl) (w.heap.size + 1) (encO false 0 0 (tickF o.a σ).2) (by rfl) (by rfl) 43 (encO false 0 0 rep0) HB2.out (by rw [Tryd.size43, encO_size]) (by simp only [encO_size]) (encO_one _ _ _ _) ?_; rw [setRow_put HB2.out])
  exact bodyPost_ret (v := .agg (encO false 0 0 (tickF o.a σ).2)) (results_cell_row (by rfl) _ _ (w.heap.size + 1) 43 _ (0, 0) _ (by rfl) (Blk.put_same HB2.out.lt) Tryd.underlying43 rfl (by rw [Tryd.size43, encO_size])) rfl ⟨rfl, own2, M2, tb, HF.out.1, HF.out.2⟩
set_option maxRecDepth 100000 in
set_option maxHeartbeats 4000000 in
theorem mstep_iso {own : Nat → Nat} {mb : Nat} {M : MA} {tb : Nat → Int → Nat} {σ : SS} {w : World} (h : MR own w mb M tb σ) {N : Int} {A : Nat} (hX : XInv N A σ) (o : OpD) (hk : o.k = 4) (ha : 0 ≤ o.a ∧ o.a < 4294967296) (hb : 0 ≤ o.b) :
    Calls Tryd.prog 15 #[.pointer (some ⟨mb, 0, none⟩), .agg (opC o)] w fun e w' => e = .returned (.agg (encOb (stepO σ o))) ∧ ∃ own' M' tb', MR own' w' mb M' tb' (stepS σ o) ∧ Ext own own' (fun k => SM k ∨ k = 49 ∨ k = 51) w w' := by
  have e1 : stepO σ o = ⟨!isoR (idx o.a), 0, 0, rep0⟩ := by unfold stepO; rw [if_neg (by omega), if_neg (by omega), if_neg (by omega), if_pos hk]
  have e2 : stepS σ o = { σ with x := isoX σ.x (idx o.a) (o.b % 2 == 1) } := by unfold stepS; rw [if_neg (by omega), if_neg (by omega), if_neg (by omega), if_neg (by omega), if_pos hk]
  rw [e1, e2]
  clear e1 e2
  have htm : o.b.tmod 2 = o.b % 2 := Int.tmod_eq_emod_of_nonneg hb
  obtain ⟨rr, hrr⟩ : ∃ rr, isoR (idx o.a) = rr := ⟨_, rfl⟩
  have HRR := hid_of hrr
  rw [hrr]
  clear hrr
  obtain ⟨p1, p2, p3, p4, p5⟩ := mr_pre h (opC o) 31
  obtain ⟨W, hW⟩ : ∃ W, ((w.alloc (.cells (opC o) 31)).alloc (.cells (encO false 0 0 rep0) 43)) = W := ⟨_, rfl⟩
  have hWl : ((w.alloc (.cells #[.int .u8 o.k, .int .u32 o.a, .int .u32 o.b, .int .u32 o.c] 31)).alloc (.cells #[.bool false, .int .u8 0, .int .u32 0, .int .i8 0, .int .i8 0, .int .i8 0, .int .i8 0, .int .i8 0, .int .i8 0, .int .i8 0, .bool false, .int .u32 0, .int .u8 0, .int .u32 0, .int .u8 0, .int .u8 0, .bool false, .int .u32 0, .int .u8 0, .int .u32 0, .int .u8 0, .int .u8 0, .bool false, .int .u32 0, .int .u8 0, .int .u32 0, .int .u8 0, .int .u8 0, .int .u8 0, .int .u8 0] 43)) = W := by rw [← hW, encO_zero]; rfl
  rw [hW] at p1 p2 p3 p5
  have hsz : Hid (W.heap.size = w.heap.size + 2) := by unfold Hid; rw [← hW]; simp
  have c0 : W.cell? ⟨w.heap.size, 0, none⟩ = some (.int .u8 4) := by have := p2.cell 0; rw [show (opC o)[0]? = some (.int .u8 o.k) from rfl, hk] at this; exact this
  have c1 : W.cell? ⟨w.heap.size, 1, none⟩ = some (.int .u32 o.a) := p2.cell 1
  have c2 : W.cell? ⟨w.heap.size, 2, none⟩ = some (.int .u32 o.b) := p2.cell 2
  have c3 : W.cell? ⟨w.heap.size, 3, none⟩ = some (.int .u32 o.c) := p2.cell 3
  have P1 := hid_of p1
  have P3 := hid_of p3
  have P5 := hid_of (p5.mono (S' := (fun k => SM k ∨ k = 49 ∨ k = 51)) (fun _ h => h.elim))
  have HO1 := hid_of p4
  obtain ⟨own1, ho1⟩ : ∃ own1, mark own w.heap.size 50 = own1 := ⟨_, rfl⟩
  rw [ho1] at P1 P5 HO1
  clear h p1 p2 p3 p4 p5 hW ho1 hk
  unfold opC
  go_enter Tryd.func15, Tryd.ntmps15
  go_upto_region 1 with fail
  clear hWl
  go_wp2_with fail
  refine (misolate_any P1.out hX o.a ha.1 ha.2 (o.b % 2 == 1)).mono ?_
  rintro e w2 ⟨rfl, own2, M2, h2, hx2⟩
  rw [HRR.out]
  have HB2 := hid_of (P3.out.ext hx2 (by rw [HO1.out]; unfold SM; omega))
  have ho2 : own2 (w.heap.size + 1) = 50 := (hx2.keep _ P3.out.lt).trans HO1.out
  have HF := hid_of (mr_post h2 ho2 (P5.out.trans (hx2.mono (fun _ q => .inl q))) (Nat.le_succ _) (encO (!rr) 0 0 rep0))
  clear h2 hx2 c0 c1 c2 c3
  go_wp2_with ((with_reducible show wpList _ _ _ ({ dst := none, op := Op.store 43 _ _, type := _, pos := _, after := _, guard := _ } :: _) _ _); refine wpList_store_row (by rfl) 43 (.tmp 4) (.tmp 91) (by rfl) (w.heap.size + 1) (encO (!rr) 0 0 rep0) (by rfl) (by rfl) 43 (encO false 0 0 rep0) HB2.out (by rw [Tryd.size43, encO_size]) (by simp only [encO_size]) (encO_one _ _ _ _) ?_; rw [setRow_put HB2.out])
  exact bodyPost_ret (v := .agg (encO (!rr) 0 0 rep0)) (results_cell_row (by rfl) _ _ (w.heap.size + 1) 43 _ (0, 0) _ (by rfl) (Blk.put_same HB2.out.lt) Tryd.underlying43 rfl (by rw [Tryd.size43, encO_size])) rfl ⟨rfl, own2, M2, tb, HF.out.1, HF.out.2⟩
set_option maxRecDepth 100000 in
set_option maxHeartbeats 4000000 in
theorem mstep_reset {own : Nat → Nat} {mb : Nat} {M : MA} {tb : Nat → Int → Nat} {σ : SS} {w : World} (h : MR own w mb M tb σ) {N : Int} {A : Nat} (hX : XInv N A σ) (o : OpD) (hk : o.k = 5) :
    Calls Tryd.prog 15 #[.pointer (some ⟨mb, 0, none⟩), .agg (opC o)] w fun e w' => e = .returned (.agg (encOb (stepO σ o))) ∧ ∃ own' M' tb', MR own' w' mb M' tb' (stepS σ o) ∧ Ext own own' (fun k => SM k ∨ k = 49 ∨ k = 51) w w' := by
  have e1 : stepO σ o = ⟨false, 0, 0, rep0⟩ := by unfold stepO; rw [if_neg (by omega), if_neg (by omega), if_neg (by omega), if_neg (by omega), if_pos hk]
  have e2 : stepS σ o = { σ with x := rstX σ.x } := by unfold stepS; rw [if_neg (by omega), if_neg (by omega), if_neg (by omega), if_neg (by omega), if_neg (by omega), if_pos hk]
  rw [e1, e2]
  clear e1 e2
  obtain ⟨p1, p2, p3, p4, p5⟩ := mr_pre h (opC o) 31
  obtain ⟨W, hW⟩ : ∃ W, ((w.alloc (.cells (opC o) 31)).alloc (.cells (encO false 0 0 rep0) 43)) = W := ⟨_, rfl⟩
  have hWl : ((w.alloc (.cells #[.int .u8 o.k, .int .u32 o.a, .int .u32 o.b, .int .u32 o.c] 31)).alloc (.cells #[.bool false, .int .u8 0, .int .u32 0, .int .i8 0, .int .i8 0, .int .i8 0, .int .i8 0, .int .i8 0, .int .i8 0, .int .i8 0, .bool false, .int .u32 0, .int .u8 0, .int .u32 0, .int .u8 0, .int .u8 0, .bool false, .int .u32 0, .int .u8 0, .int .u32 0, .int .u8 0, .int .u8 0, .bool false, .int .u32 0, .int .u8 0, .int .u32 0, .int .u8 0, .int .u8 0, .int .u8 0, .int .u8 0] 43)) = W := by rw [← hW, encO_zero]; rfl
  rw [hW] at p1 p2 p3 p5
  have hsz : Hid (W.heap.size = w.heap.size + 2) := by unfold Hid; rw [← hW]; simp
  have c0 : W.cell? ⟨w.heap.size, 0, none⟩ = some (.int .u8 5) := by have := p2.cell 0; rw [show (opC o)[0]? = some (.int .u8 o.k) from rfl, hk] at this; exact this
  have c1 : W.cell? ⟨w.heap.size, 1, none⟩ = some (.int .u32 o.a) := p2.cell 1
  have c2 : W.cell? ⟨w.heap.size, 2, none⟩ = some (.int .u32 o.b) := p2.cell 2
  have c3 : W.cell? ⟨w.heap.size, 3, none⟩ = some (.int .u32 o.c) := p2.cell 3
  have P1 := hid_of p1
  have P3 := hid_of p3
  have P5 := hid_of (p5.mono (S' := (fun k => SM k ∨ k = 49 ∨ k = 51)) (fun _ h => h.elim))
  have HO1 := hid_of p4
  obtain ⟨own1, ho1⟩ : ∃ own1, mark own w.heap.size 50 = own1 := ⟨_, rfl⟩
  rw [ho1] at P1 P5 HO1
  clear h p1 p2 p3 p4 p5 hW ho1 hk
  unfold opC
  go_enter Tryd.func15, Tryd.ntmps15
  go_upto_region 1 with fail
  clear hWl
  go_wp2_with fail
  refine (mreset_any P1.out hX).mono ?_
  rintro e w2 ⟨rfl, M2, h2, hx2⟩
  have HB2 := hid_of (P3.out.ext hx2 (by rw [HO1.out]; unfold SM; omega))
  have HF := hid_of (mr_post h2 HO1.out (P5.out.trans (hx2.mono (fun _ q => .inl q))) (Nat.le_succ _) (encO false 0 0 rep0))
  clear h2 hx2 c0 c1 c2 c3
  go_wp2_with ((with_reducible show wpList _ _ _ ({ dst := none, op := Op.store 43 _ _, type := _, pos := _, after := _, guard := _ } :: _) _ _); rw [← encO_lit0]; refine wpList_store_row (by rfl) 43 (.tmp 4) (.tmp 96) (by rfl) (w.heap.size + 1) (encO false 0 0 rep0) (by rfl) (by rfl) 43 (encO false 0 0 rep0) HB2.out (by rw [Tryd.size43, encO_size]) (by simp only [encO_size]) (encO_one _ _ _ _) ?_; rw [setRow_put HB2.out])
  exact bodyPost_ret (v := .agg (encO false 0 0 rep0)) (results_cell_row (by rfl) _ _ (w.heap.size + 1) 43 _ (0, 0) _ (by rfl) (Blk.put_same HB2.out.lt) Tryd.underlying43 rfl (by rw [Tryd.size43, encO_size])) rfl ⟨rfl, own1, M2, tb, HF.out.1, HF.out.2⟩
set_option maxRecDepth 100000 in
set_option maxHeartbeats 4000000 in
theorem mstep_other {own : Nat → Nat} {mb : Nat} {M : MA} {tb : Nat → Int → Nat} {σ : SS} {w : World} (h : MR own w mb M tb σ) (o : OpD) (hk : 6 ≤ o.k) :
    Calls Tryd.prog 15 #[.pointer (some ⟨mb, 0, none⟩), .agg (opC o)] w fun e w' => e = .returned (.agg (encOb (stepO σ o))) ∧ ∃ own' M' tb', MR own' w' mb M' tb' (stepS σ o) ∧ Ext own own' (fun k => SM k ∨ k = 49 ∨ k = 51) w w' := by
  have e1 : stepO σ o = ⟨true, 0, 0, rep0⟩ := by unfold stepO; rw [if_neg (by omega), if_neg (by omega), if_neg (by omega), if_neg (by omega), if_neg (by omega)]
  have e2 : stepS σ o = σ := by unfold stepS; rw [if_neg (by omega), if_neg (by omega), if_neg (by omega), if_neg (by omega), if_neg (by omega), if_neg (by omega)]
  have k0 : (o.k == 0) = false := by simp; omega
  have k1 : (o.k == 1) = false := by simp; omega
  have k2 : (o.k == 2) = false := by simp; omega
  have k3 : (o.k == 3) = false := by simp; omega
  have k4 : (o.k == 4) = false := by simp; omega
  have k5 : (o.k == 5) = false := by simp; omega
  rw [e1, e2]
  clear e1 e2 hk
  obtain ⟨p1, p2, p3, p4, p5⟩ := mr_pre h (opC o) 31
  obtain ⟨W, hW⟩ : ∃ W, ((w.alloc (.cells (opC o) 31)).alloc (.cells (encO false 0 0 rep0) 43)) = W := ⟨_, rfl⟩
  have hWl : ((w.alloc (.cells #[.int .u8 o.k, .int .u32 o.a, .int .u32 o.b, .int .u32 o.c] 31)).alloc (.cells #[.bool false, .int .u8 0, .int .u32 0, .int .i8 0, .int .i8 0, .int .i8 0, .int .i8 0, .int .i8 0, .int .i8 0, .int .i8 0, .bool false, .int .u32 0, .int .u8 0, .int .u32 0, .int .u8 0, .int .u8 0, .bool false, .int .u32 0, .int .u8 0, .int .u32 0, .int .u8 0, .int .u8 0, .bool false, .int .u32 0, .int .u8 0, .int .u32 0, .int .u8 0, .int .u8 0, .int .u8 0, .int .u8 0] 43)) = W := by rw [← hW, encO_zero]; rfl
  rw [hW] at p1 p2 p3 p5
  have hsz : Hid (W.heap.size = w.heap.size + 2) := by unfold Hid; rw [← hW]; simp
  have c0 : W.cell? ⟨w.heap.size, 0, none⟩ = some (.int .u8 o.k) := p2.cell 0
  have c1 : W.cell? ⟨w.heap.size, 1, none⟩ = some (.int .u32 o.a) := p2.cell 1
  have c2 : W.cell? ⟨w.heap.size, 2, none⟩ = some (.int .u32 o.b) := p2.cell 2
  have c3 : W.cell? ⟨w.heap.size, 3, none⟩ = some (.int .u32 o.c) := p2.cell 3
  have P1 := hid_of p1
  have P3 := hid_of p3
  have P5 := hid_of (p5.mono (S' := (fun k => SM k ∨ k = 49 ∨ k = 51)) (fun _ h => h.elim))
  have HO1 := hid_of p4
  obtain ⟨own1, ho1⟩ : ∃ own1, mark own w.heap.size 50 = own1 := ⟨_, rfl⟩
  rw [ho1] at P1 P5 HO1
  clear h p1 p2 p3 p4 p5 hW ho1
  unfold opC
  go_enter Tryd.func15, Tryd.ntmps15
  go_upto_region 1 with fail
  clear hWl
  have HB2 := P3
  have HF := hid_of (mr_post P1.out HO1.out P5.out (Nat.le_succ _) (encO true 0 0 rep0))
  go_wp2_with ((with_reducible show wpList _ _ _ ({ dst := none, op := Op.store 43 _ _, type := _, pos := _, after := _, guard := _ } :: _) _ _); rw [← encO_lit0]; refine wpList_store_row (by rfl) 43 (.tmp 4) (.tmp 7) (by rfl) (w.heap.size + 1) (encO true 0 0 rep0) (by rfl) (by rfl) 43 (encO false 0 0 rep0) HB2.out (by rw [Tryd.size43, encO_size]) (by simp only [encO_size]) (encO_one _ _ _ _) ?_; rw [setRow_put HB2.out])
  exact bodyPost_ret (v := .agg (encO true 0 0 rep0)) (results_cell_row (by rfl) _ _ (w.heap.size + 1) 43 _ (0, 0) _ (by rfl) (Blk.put_same HB2.out.lt) Tryd.underlying43 rfl (by rw [Tryd.size43, encO_size])) rfl ⟨rfl, own1, M, tb, HF.out.1, HF.out.2⟩
end Go.Proofs.Qxb6500750aDoor
