import Derived.Test.Qxb6500750aDoorMst
namespace Go.Proofs.Qxb6500750aDoor
open Go.RowKit
attribute [local go_sem] put_size put_cell_same put_cell_ne put_frozen_same put_frozen_ne put_setCell_same put_setCell_ne put_drew
attribute [local go_sem] drewN_setCell drewN_alloc drewN_put upd_same upd_upd
attribute [local go_sem] mg_q mg_ac mg_tk mg_ba mg_wm mg_pv mg_av mg_sv mg_lf mg_en mg_rd mg_tu mg_is ms_q ms_ac ms_tk ms_ba ms_wm ms_pv ms_av ms_sv ms_lf ms_en ms_rd ms_tu ms_is
/-! ### The machine's step: a plan -/
set_option maxRecDepth 100000 in
set_option maxHeartbeats 4000000 in
theorem mstep_plan_a {own : Nat → Nat} {mb : Nat} {M : MA} {tb : Nat → Int → Nat} {σ : SS} {w : World} (h : MR own w mb M tb σ) (o : OpD) (hk : o.k = 2) (hno : planTaken σ o = false) (h6 : 6 ≤ o.a) :
    Calls Tryd.prog 15 #[.pointer (some ⟨mb, 0, none⟩), .agg (opC o)] w fun e w' => e = .returned (.agg (encOb (stepO σ o))) ∧ ∃ own' M' tb', MR own' w' mb M' tb' (stepS σ o) ∧ Ext own own' (fun k => SM k ∨ k = 49 ∨ k = 51) w w' := by
  have e1 : stepO σ o = ⟨true, 0, 0, rep0⟩ := by unfold stepO; rw [if_neg (by omega), if_pos hk, hno]; rfl
  have e2 : stepS σ o = σ := by unfold stepS; rw [if_neg (by omega), if_neg (by omega), if_pos hk, hno]; rfl
  rw [e1, e2]
  clear e1 e2
  obtain ⟨p1, p2, p3, p4, p5⟩ := mr_pre h (opC o) 31
  obtain ⟨W, hW⟩ : ∃ W, ((w.alloc (.cells (opC o) 31)).alloc (.cells (encO false 0 0 rep0) 43)) = W := ⟨_, rfl⟩
  have hWl : ((w.alloc (.cells #[.int .u8 o.k, .int .u32 o.a, .int .u32 o.b, .int .u32 o.c] 31)).alloc (.cells #[.bool false, .int .u8 0, .int .u32 0, .int .i8 0, .int .i8 0, .int .i8 0, .int .i8 0, .int .i8 0, .int .i8 0, .int .i8 0, .bool false, .int .u32 0, .int .u8 0, .int .u32 0, .int .u8 0, .int .u8 0, .bool false, .int .u32 0, .int .u8 0, .int .u32 0, .int .u8 0, .int .u8 0, .bool false, .int .u32 0, .int .u8 0, .int .u32 0, .int .u8 0, .int .u8 0, .int .u8 0, .int .u8 0] 43)) = W := by rw [← hW, encO_zero]; rfl
  rw [hW] at p1 p2 p3 p5
  have hsz : Hid (W.heap.size = w.heap.size + 2) := by unfold Hid; rw [← hW]; simp
  have c0 : W.cell? ⟨w.heap.size, 0, none⟩ = some (.int .u8 2) := by have := p2.cell 0; rw [show (opC o)[0]? = some (.int .u8 o.k) from rfl, hk] at this; exact this
  have c1 : W.cell? ⟨w.heap.size, 1, none⟩ = some (.int .u32 o.a) := p2.cell 1
  have c2 : W.cell? ⟨w.heap.size, 2, none⟩ = some (.int .u32 o.b) := p2.cell 2
  have c3 : W.cell? ⟨w.heap.size, 3, none⟩ = some (.int .u32 o.c) := p2.cell 3
  have P1 := hid_of p1
  have P3 := hid_of p3
  have P5 := hid_of (p5.mono (S' := (fun k => SM k ∨ k = 49 ∨ k = 51)) (fun _ h => h.elim))
  have HO1 := hid_of p4
  obtain ⟨own1, ho1⟩ : ∃ own1, mark own w.heap.size 50 = own1 := ⟨_, rfl⟩
  rw [ho1] at P1 P5 HO1
  clear h p1 p2 p3 p4 p5 hW ho1 hk hno
  unfold opC
  go_enter Tryd.func15, Tryd.ntmps15
  go_upto_region 1 with fail
  clear hWl
  go_wp2_with fail
  go_quiet (fail)
  have HB2 : Hid (Blk (W.drewN nq) (w.heap.size + 1) (encO false 0 0 rep0) 43) := P3.out
  have hdr : Ext own1 own1 (fun _ => False) W (W.drewN nq) := Ext.drewN (Ext.refl _ _ _) nq
  have HF := hid_of (mr_post (P1.out.ext hdr (fun _ _ q => q)) HO1.out (P5.out.trans (hdr.mono (fun _ q => q.elim))) (Nat.le_succ _) (encO true 0 0 rep0))
  clear hdr
  go_wp2_with ((with_reducible show wpList _ _ _ ({ dst := none, op := Op.store 43 _ _, type := _, pos := _, after := _, guard := _ } :: _) _ _); rw [← encO_lit0]; refine wpList_store_row (by rfl) 43 (.tmp 4) (.tmp 50) (by rfl) (w.heap.size + 1) (encO true 0 0 rep0) (by rfl) (by rfl) 43 (encO false 0 0 rep0) HB2.out (by rw [Tryd.size43, encO_size]) (by simp only [encO_size]) (encO_one _ _ _ _) ?_; rw [setRow_put HB2.out])
  exact bodyPost_ret (v := .agg (encO true 0 0 rep0)) (results_cell_row (by rfl) _ _ (w.heap.size + 1) 43 _ (0, 0) _ (by rfl) (Blk.put_same HB2.out.lt) Tryd.underlying43 rfl (by rw [Tryd.size43, encO_size])) rfl ⟨rfl, own1, M, tb, HF.out.1, HF.out.2⟩
set_option maxRecDepth 100000 in
set_option maxHeartbeats 4000000 in
theorem mstep_plan_b {own : Nat → Nat} {mb : Nat} {M : MA} {tb : Nat → Int → Nat} {σ : SS} {w : World} (h : MR own w mb M tb σ) (o : OpD) (hk : o.k = 2) (hno : planTaken σ o = false) (h6 : o.a < 6) (hb6 : 6 ≤ o.b) :
    Calls Tryd.prog 15 #[.pointer (some ⟨mb, 0, none⟩), .agg (opC o)] w fun e w' => e = .returned (.agg (encOb (stepO σ o))) ∧ ∃ own' M' tb', MR own' w' mb M' tb' (stepS σ o) ∧ Ext own own' (fun k => SM k ∨ k = 49 ∨ k = 51) w w' := by
  have e1 : stepO σ o = ⟨true, 0, 0, rep0⟩ := by unfold stepO; rw [if_neg (by omega), if_pos hk, hno]; rfl
  have e2 : stepS σ o = σ := by unfold stepS; rw [if_neg (by omega), if_neg (by omega), if_pos hk, hno]; rfl
  rw [e1, e2]
  clear e1 e2
  have d1 : decide (6 ≤ o.a) = false := decide_eq_false (by omega)
  have d2 : decide (6 ≤ o.b) = true := decide_eq_true hb6
  have d3 : ¬ 6 ≤ o.a := by omega
  clear h6
  obtain ⟨p1, p2, p3, p4, p5⟩ := mr_pre h (opC o) 31
  obtain ⟨W, hW⟩ : ∃ W, ((w.alloc (.cells (opC o) 31)).alloc (.cells (encO false 0 0 rep0) 43)) = W := ⟨_, rfl⟩
  have hWl : ((w.alloc (.cells #[.int .u8 o.k, .int .u32 o.a, .int .u32 o.b, .int .u32 o.c] 31)).alloc (.cells #[.bool false, .int .u8 0, .int .u32 0, .int .i8 0, .int .i8 0, .int .i8 0, .int .i8 0, .int .i8 0, .int .i8 0, .int .i8 0, .bool false, .int .u32 0, .int .u8 0, .int .u32 0, .int .u8 0, .int .u8 0, .bool false, .int .u32 0, .int .u8 0, .int .u32 0, .int .u8 0, .int .u8 0, .bool false, .int .u32 0, .int .u8 0, .int .u32 0, .int .u8 0, .int .u8 0, .int .u8 0, .int .u8 0] 43)) = W := by rw [← hW, encO_zero]; rfl
  rw [hW] at p1 p2 p3 p5
  have hsz : Hid (W.heap.size = w.heap.size + 2) := by unfold Hid; rw [← hW]; simp
  have c0 : W.cell? ⟨w.heap.size, 0, none⟩ = some (.int .u8 2) := by have := p2.cell 0; rw [show (opC o)[0]? = some (.int .u8 o.k) from rfl, hk] at this; exact this
  have c1 : W.cell? ⟨w.heap.size, 1, none⟩ = some (.int .u32 o.a) := p2.cell 1
  have c2 : W.cell? ⟨w.heap.size, 2, none⟩ = some (.int .u32 o.b) := p2.cell 2
  have c3 : W.cell? ⟨w.heap.size, 3, none⟩ = some (.int .u32 o.c) := p2.cell 3
  have P1 := hid_of p1
  have P3 := hid_of p3
  have P5 := hid_of (p5.mono (S' := (fun k => SM k ∨ k = 49 ∨ k = 51)) (fun _ h => h.elim))
  have HO1 := hid_of p4
  obtain ⟨own1, ho1⟩ : ∃ own1, mark own w.heap.size 50 = own1 := ⟨_, rfl⟩
  rw [ho1] at P1 P5 HO1
  clear h p1 p2 p3 p4 p5 hW ho1 hk hno
  unfold opC
  go_enter Tryd.func15, Tryd.ntmps15
  go_upto_region 1 with fail
  clear hWl
  go_wp2_with fail
  go_quiet (fail)
  have HB2 : Hid (Blk (W.drewN nq) (w.heap.size + 1) (encO false 0 0 rep0) 43) := P3.out
  have hdr : Ext own1 own1 (fun _ => False) W (W.drewN nq) := Ext.drewN (Ext.refl _ _ _) nq
  have HF := hid_of (mr_post (P1.out.ext hdr (fun _ _ q => q)) HO1.out (P5.out.trans (hdr.mono (fun _ q => q.elim))) (Nat.le_succ _) (encO true 0 0 rep0))
  clear hdr
  go_wp2_with ((with_reducible show wpList _ _ _ ({ dst := none, op := Op.store 43 _ _, type := _, pos := _, after := _, guard := _ } :: _) _ _); rw [← encO_lit0]; refine wpList_store_row (by rfl) 43 (.tmp 4) (.tmp 50) (by rfl) (w.heap.size + 1) (encO true 0 0 rep0) (by rfl) (by rfl) 43 (encO false 0 0 rep0) HB2.out (by rw [Tryd.size43, encO_size]) (by simp only [encO_size]) (encO_one _ _ _ _) ?_; rw [setRow_put HB2.out])
  exact bodyPost_ret (v := .agg (encO true 0 0 rep0)) (results_cell_row (by rfl) _ _ (w.heap.size + 1) 43 _ (0, 0) _ (by rfl) (Blk.put_same HB2.out.lt) Tryd.underlying43 rfl (by rw [Tryd.size43, encO_size])) rfl ⟨rfl, own1, M, tb, HF.out.1, HF.out.2⟩
set_option maxRecDepth 100000 in
set_option maxHeartbeats 4000000 in
theorem mstep_plan_c {own : Nat → Nat} {mb : Nat} {M : MA} {tb : Nat → Int → Nat} {σ : SS} {w : World} (h : MR own w mb M tb σ) (o : OpD) (hk : o.k = 2) (hno : planTaken σ o = false) (ha : 0 ≤ o.a) (h6 : o.a < 6) (hb6 : o.b < 6) (h8 : (σ.p o.a.toNat).plans.length = 8) :
    Calls Tryd.prog 15 #[.pointer (some ⟨mb, 0, none⟩), .agg (opC o)] w fun e w' => e = .returned (.agg (encOb (stepO σ o))) ∧ ∃ own' M' tb', MR own' w' mb M' tb' (stepS σ o) ∧ Ext own own' (fun k => SM k ∨ k = 49 ∨ k = 51) w w' := by
  have e1 : stepO σ o = ⟨true, 0, 0, rep0⟩ := by unfold stepO; rw [if_neg (by omega), if_pos hk, hno]; rfl
  have e2 : stepS σ o = σ := by unfold stepS; rw [if_neg (by omega), if_neg (by omega), if_pos hk, hno]; rfl
  rw [e1, e2]
  clear e1 e2
  obtain ⟨t, ht⟩ : ∃ t : Nat, o.a = (t : Nat) := Int.eq_ofNat_of_zero_le ha
  have ht6 : t < 6 := by omega
  have hti : ((t : Nat) : Int) < 7 := by omega
  have hti6 : ((t : Nat) : Int) < 6 := by omega
  rw [ht, Int.toNat_natCast] at h8
  have hS0 := (h.tgt t (by omega)).plans
  rw [if_pos ht6, if_pos ht6, h8] at hS0
  obtain ⟨ad, cap, hv⟩ := hS0.form'
  have HV := hid_of hv
  have HT := hid_of ht
  clear hS0 hv ht
  obtain ⟨p1, p2, p3, p4, p5⟩ := mr_pre h (opC o) 31
  obtain ⟨W, hW⟩ : ∃ W, ((w.alloc (.cells (opC o) 31)).alloc (.cells (encO false 0 0 rep0) 43)) = W := ⟨_, rfl⟩
  have hWl : ((w.alloc (.cells #[.int .u8 o.k, .int .u32 o.a, .int .u32 o.b, .int .u32 o.c] 31)).alloc (.cells #[.bool false, .int .u8 0, .int .u32 0, .int .i8 0, .int .i8 0, .int .i8 0, .int .i8 0, .int .i8 0, .int .i8 0, .int .i8 0, .bool false, .int .u32 0, .int .u8 0, .int .u32 0, .int .u8 0, .int .u8 0, .bool false, .int .u32 0, .int .u8 0, .int .u32 0, .int .u8 0, .int .u8 0, .bool false, .int .u32 0, .int .u8 0, .int .u32 0, .int .u8 0, .int .u8 0, .int .u8 0, .int .u8 0] 43)) = W := by rw [← hW, encO_zero]; rfl
  rw [hW] at p1 p2 p3 p5
  have hsz : Hid (W.heap.size = w.heap.size + 2) := by unfold Hid; rw [← hW]; simp
  have c0 : W.cell? ⟨w.heap.size, 0, none⟩ = some (.int .u8 2) := by have := p2.cell 0; rw [show (opC o)[0]? = some (.int .u8 o.k) from rfl, hk] at this; exact this
  have c1 : W.cell? ⟨w.heap.size, 1, none⟩ = some (.int .u32 o.a) := p2.cell 1
  have c2 : W.cell? ⟨w.heap.size, 2, none⟩ = some (.int .u32 o.b) := p2.cell 2
  have c3 : W.cell? ⟨w.heap.size, 3, none⟩ = some (.int .u32 o.c) := p2.cell 3
  rw [HT.out] at c1
  have cp := p1.blk.cell (12 + t * 9 + 1)
  rw [mg_pv _ _ (by omega), HV.out] at cp
  have P1 := hid_of p1
  have P3 := hid_of p3
  have P5 := hid_of (p5.mono (S' := (fun k => SM k ∨ k = 49 ∨ k = 51)) (fun _ h => h.elim))
  have HO1 := hid_of p4
  obtain ⟨own1, ho1⟩ : ∃ own1, mark own w.heap.size 50 = own1 := ⟨_, rfl⟩
  rw [ho1] at P1 P5 HO1
  clear h6 h p1 p2 p3 p4 p5 hW ho1 hk hno ha h8
  unfold opC
  go_enter Tryd.func15, Tryd.ntmps15
  go_upto_region 1 with fail
  clear hWl
  go_wp2_with fail
  go_quiet (fail)
  have HB2 : Hid (Blk (W.drewN nq) (w.heap.size + 1) (encO false 0 0 rep0) 43) := P3.out
  have hdr : Ext own1 own1 (fun _ => False) W (W.drewN nq) := Ext.drewN (Ext.refl _ _ _) nq
  have HF := hid_of (mr_post (P1.out.ext hdr (fun _ _ q => q)) HO1.out (P5.out.trans (hdr.mono (fun _ q => q.elim))) (Nat.le_succ _) (encO true 0 0 rep0))
  clear hdr
  go_wp2_with ((with_reducible show wpList _ _ _ ({ dst := none, op := Op.store 43 _ _, type := _, pos := _, after := _, guard := _ } :: _) _ _); rw [← encO_lit0]; refine wpList_store_row (by rfl) 43 (.tmp 4) (.tmp 50) (by rfl) (w.heap.size + 1) (encO true 0 0 rep0) (by rfl) (by rfl) 43 (encO false 0 0 rep0) HB2.out (by rw [Tryd.size43, encO_size]) (by simp only [encO_size]) (encO_one _ _ _ _) ?_; rw [setRow_put HB2.out])
  exact bodyPost_ret (v := .agg (encO true 0 0 rep0)) (results_cell_row (by rfl) _ _ (w.heap.size + 1) 43 _ (0, 0) _ (by rfl) (Blk.put_same HB2.out.lt) Tryd.underlying43 rfl (by rw [Tryd.size43, encO_size])) rfl ⟨rfl, own1, M, tb, HF.out.1, HF.out.2⟩
theorem MR.plan {own own' : Nat → Nat} {w w' : World} {mb : Nat} {M : MA} {tb : Nat → Int → Nat} {σ : SS} {t : Nat} (ht : t < 6) (h : MR own w mb M tb σ) (p : PlanD) {v' : Value} (hx : Ext own own' (fun k => k = 30 ∨ k = 70 + t) w w') (hblk : Blk w' mb (encM { M with tg := upd M.tg t { M.tg t with pv := v' } }) 104)
    (hS : Sl w' v' 57 2 ((σ.p t).plans.length + 1) ((σ.p t).plans.flatMap planRow ++ planRow p)) (hov : ∀ k, v'.ownBlock = some k → own' k = 70 + t) :
    MR own' w' mb { M with tg := upd M.tg t { M.tg t with pv := v' } } tb { σ with p := upd σ.p t { σ.p t with plans := (σ.p t).plans ++ [p] } } := by
  have ht7 : t < 7 := by omega
  have kk := h.tgt t ht7
  have hsame : ∀ b, b < w.heap.size → own b ≠ 30 → own b ≠ 70 + t → w'.heap[b]? = w.heap[b]? := fun b hb h1 h2 => hx.block b hb (by omega)
  have hpt : upd σ.p t { σ.p t with plans := (σ.p t).plans ++ [p] } t = { σ.p t with plans := (σ.p t).plans ++ [p] } := upd_same _ _ _
  refine h.round ht7 (fun _ => False) (hx.mono (fun k hk => by unfold SR; omega)) (fun b hb h34 _ => hsame b hb (by omega) (by omega)) (fun _ _ _ _ _ _ _ q => q) hblk (fun m _ => ⟨rfl, rfl, rfl, rfl⟩) (fun τ _ e => ⟨rfl, upd_ne _ _ _ _ e⟩) (fun m hm q h1 h2 => ?_) ?_ ?_ hov (fun k hk => ?_) (fun h1 h2 b hb => ?_)
  · have ho := h.otx m hm q h1 h2
    exact (hsame _ (h.tx m hm q h1 h2).lt (by omega) (by omega)).trans (h.tx m hm q h1 h2)
  · have ho := h.owm t ht7
    refine ⟨?_, ?_, ?_, kk.free, kk.live, fun h1 h2 => ?_, ?_, kk.turn, kk.iso⟩
    · show MapB w' (M.tg t).wm (if t < 6 then (upd σ.p t _ t).mem else _)
      rw [hpt]
      exact kk.words.same (hsame _ kk.words.lt (by omega) (by omega))
    · show Sl w' v' 57 2 (if t < 6 then (upd σ.p t _ t).plans.length else 0) (if t < 6 then (upd σ.p t _ t).plans.flatMap planRow else [])
      rw [hpt, if_pos ht, if_pos ht]
      show Sl w' v' 57 2 ((σ.p t).plans ++ [p]).length (((σ.p t).plans ++ [p]).flatMap planRow)
      rw [List.length_append, List.flatMap_append]
      have : List.flatMap planRow [p] = planRow p := by simp
      rw [this]; exact hS
    · show Sl w' (M.tg t).av 54 4 (if t < 6 then (acts (upd σ.p t _ t)).length else 0) (if t < 6 then (acts (upd σ.p t _ t)).flatMap lreqRow else [])
      rw [hpt]
      exact kk.acted.same fun b hb => by have := h.oac t ht7 b hb; exact hsame b (kk.acted.lt b hb) (by omega) (by omega)
    · obtain ⟨b, y, z1, z2, z3, z4⟩ := kk.gone h1 h2
      have := h.ogn t ht7 h1 h2 b z1
      exact ⟨b, y, z1, (hsame b z2.lt (by omega) (by omega)).trans z2, z3, z4⟩
    · intro h1
      have h9 := kk.left h1
      rw [if_pos ht, if_pos ht, if_pos ht] at h9 ⊢
      rw [show ({ σ with p := upd σ.p t { σ.p t with plans := (σ.p t).plans ++ [p] } } : SS).p t = { σ.p t with plans := (σ.p t).plans ++ [p] } from hpt]
      exact h9
  · exact (hx.keep _ kk.words.lt).trans (h.owm t ht7)
  · exact (hx.keep k (kk.acted.lt k hk)).trans (h.oac t ht7 k hk)
  · obtain ⟨b', y, e1, e2, _⟩ := kk.gone h1 h2
    have : b' = b := by
      have hb : (M.tg t).sv = .pointer (some ⟨b, 0, none⟩) := hb
      rw [e1] at hb; injection hb with hb; injection hb with hb; injection hb
    subst this
    exact (hx.keep _ e2.lt).trans (h.ogn t ht7 h1 h2 b' hb)
theorem Tryd.info57m : (Tryd.prog.info? 57).map (fun i => (i.zero, i.size, i.bytes)) = some (some (.agg #[.int .u8 0, .int .u32 0]), 2, 8) := by kernel_rfl
set_option maxRecDepth 100000 in
set_option maxHeartbeats 4000000 in
theorem mstep_plan_y {own : Nat → Nat} {mb : Nat} {M : MA} {tb : Nat → Int → Nat} {σ : SS} {w : World} (h : MR own w mb M tb σ) (o : OpD) (hk : o.k = 2) (hyes : planTaken σ o = true) (ha : 0 ≤ o.a) (h6 : o.a < 6) (hb : 0 ≤ o.b) (hb6 : o.b < 6) (h8 : (σ.p o.a.toNat).plans.length < 8) :
    Calls Tryd.prog 15 #[.pointer (some ⟨mb, 0, none⟩), .agg (opC o)] w fun e w' => e = .returned (.agg (encOb (stepO σ o))) ∧ ∃ own' M' tb', MR own' w' mb M' tb' (stepS σ o) ∧ Ext own own' (fun k => SM k ∨ k = 49 ∨ k = 51) w w' := by
  have e1 : stepO σ o = ⟨false, 0, 0, rep0⟩ := by unfold stepO; rw [if_neg (by omega), if_pos hk, hyes]; rfl
  have e2 : stepS σ o = { σ with p := upd σ.p o.a.toNat { σ.p o.a.toNat with plans := (σ.p o.a.toNat).plans ++ [⟨o.b, o.c⟩] } } := by unfold stepS; rw [if_neg (by omega), if_neg (by omega), if_pos hk, hyes]; rfl
  rw [e1, e2]
  clear e1 e2
  obtain ⟨t, ht⟩ : ∃ t : Nat, o.a = (t : Nat) := Int.eq_ofNat_of_zero_le ha
  have ht6 : t < 6 := by omega
  have hti : ((t : Nat) : Int) < 7 := by omega
  have hti6 : ((t : Nat) : Int) < 6 := by omega
  rw [ht, Int.toNat_natCast] at h8
  rw [show o.a.toNat = t by omega]
  have hS0 := (h.tgt t (by omega)).plans
  rw [if_pos ht6, if_pos ht6] at hS0
  obtain ⟨L, hL⟩ : ∃ L, (σ.p t).plans.length = L := ⟨_, rfl⟩
  rw [hL] at hS0 h8
  obtain ⟨ad, cap, hv⟩ := hS0.form'
  have hL8 : (((L : Nat) : Int) == 8) = false := by simp; omega
  have hb8 : o.b % 256 = o.b := by omega
  have HV := hid_of hv
  have HT := hid_of ht
  have HL := hid_of hL
  have hinf := Tryd.info57m
  obtain ⟨i0, hi0, hz0, hz1, hz2⟩ : ∃ i0 : TypeInfo, Tryd.prog.info? 57 = some i0 ∧ i0.zero = some (.agg #[.int .u8 0, .int .u32 0]) ∧ i0.size = 2 ∧ i0.bytes = 8 := by
    cases hh : Tryd.prog.info? 57 with
    | none => rw [hh] at hinf; cases hinf
    | some i => rw [hh] at hinf; simp at hinf; exact ⟨i, rfl, hinf.1, hinf.2.1, hinf.2.2⟩
  clear hS0 hv ht hL hinf
  obtain ⟨p1, p2, p3, p4, p5⟩ := mr_pre h (opC o) 31
  obtain ⟨W, hW⟩ : ∃ W, ((w.alloc (.cells (opC o) 31)).alloc (.cells (encO false 0 0 rep0) 43)) = W := ⟨_, rfl⟩
  have hWl : ((w.alloc (.cells #[.int .u8 o.k, .int .u32 o.a, .int .u32 o.b, .int .u32 o.c] 31)).alloc (.cells #[.bool false, .int .u8 0, .int .u32 0, .int .i8 0, .int .i8 0, .int .i8 0, .int .i8 0, .int .i8 0, .int .i8 0, .int .i8 0, .bool false, .int .u32 0, .int .u8 0, .int .u32 0, .int .u8 0, .int .u8 0, .bool false, .int .u32 0, .int .u8 0, .int .u32 0, .int .u8 0, .int .u8 0, .bool false, .int .u32 0, .int .u8 0, .int .u32 0, .int .u8 0, .int .u8 0, .int .u8 0, .int .u8 0] 43)) = W := by rw [← hW, encO_zero]; rfl
  rw [hW] at p1 p2 p3 p5
  have hsz : Hid (W.heap.size = w.heap.size + 2) := by unfold Hid; rw [← hW]; simp
  have c0 : W.cell? ⟨w.heap.size, 0, none⟩ = some (.int .u8 2) := by have := p2.cell 0; rw [show (opC o)[0]? = some (.int .u8 o.k) from rfl, hk] at this; exact this
  have c1 : W.cell? ⟨w.heap.size, 1, none⟩ = some (.int .u32 o.a) := p2.cell 1
  have c2 : W.cell? ⟨w.heap.size, 2, none⟩ = some (.int .u32 o.b) := p2.cell 2
  have c3 : W.cell? ⟨w.heap.size, 3, none⟩ = some (.int .u32 o.c) := p2.cell 3
  rw [HT.out] at c1
  have cp := p1.blk.cell (12 + t * 9 + 1)
  rw [mg_pv _ _ (by omega), HV.out] at cp
  have hS1 := (p1.tgt t (by omega)).plans
  rw [if_pos ht6, if_pos ht6, HL.out, HV.out] at hS1
  have HS := hid_of hS1
  have HP2 := hid_of p2
  have HO0 : Hid (mark own w.heap.size 50 w.heap.size = 50) := mark_ge (Nat.le_refl _)
  have P1 := hid_of p1
  have P3 := hid_of p3
  have P5 := hid_of (p5.mono (S' := (fun k => SM k ∨ k = 49 ∨ k = 51)) (fun _ h => h.elim))
  have HO1 := hid_of p4
  obtain ⟨own1, ho1⟩ : ∃ own1, mark own w.heap.size 50 = own1 := ⟨_, rfl⟩
  rw [ho1] at P1 P5 HO1 HO0
  clear h6 hS1 h p1 p2 p3 p4 p5 hW ho1 hk hyes ha
  unfold opC
  go_enter Tryd.func15, Tryd.ntmps15
  go_upto_region 1 with fail
  clear hWl
  go_wp2_with fail
  go_quiet (fail)
  go_upto_region 10 with fail
  have l1 : mb < (W.drewN nq).heap.size := P1.out.blk.lt
  have q1 : (W.drewN (nq + 1)).cell? ⟨w.heap.size, 1, none⟩ = some (.int .u32 ((t : Nat) : Int)) := c1
  have q2 : (W.drewN (nq + 1)).cell? ⟨w.heap.size, 2, none⟩ = some (.int .u32 o.b) := c2
  have q3 : (W.drewN (nq + 1)).cell? ⟨w.heap.size, 3, none⟩ = some (.int .u32 o.c) := c3
  have q4 : (W.drewN (nq + 1)).cell? ⟨mb, 12 + t * 9 + 1, none⟩ = some (.slice ad L cap) := cp
  refine wp_region_float [0, 1, 2, 3, 4, 5, 6, 7, 8, 9, 10, 11, 12, 13, 14, 15, 16, 19, 20] [17, 18, 21, 22, 23] [0, 1, 3, 4, 6, 7, 8, 9, 11, 13, 14, 16, 19, 20] mixed (fun ω => ω.cell? ⟨w.heap.size, 1, none⟩ = some (.int .u32 ((t : Nat) : Int)) ∧ ω.cell? ⟨w.heap.size, 2, none⟩ = some (.int .u32 o.b) ∧ ω.cell? ⟨w.heap.size, 3, none⟩ = some (.int .u32 o.c) ∧ ω.cell? ⟨mb, 12 + t * 9 + 1, none⟩ = some (.slice ad L cap)) (by kernel_rfl) rfl (by kernel_rfl) ⟨q1, q2, q3, q4⟩ ?_
  iterate 19 refine wpFl_op _ _ _ _ rfl rfl (fun ω hj => by first | (obtain ⟨j1, j2, j3, j4⟩ := hj rfl; go_simp; rfl) | (go_simp; rfl)) ?_
  refine wpFl_nil _ _ ?_
  simp only [Act.put, List.setIfInBounds_toArray]
  refine wpCh_one _ _ _ _ rfl ?_
  simp only [List.getElem_toArray, List.getElem_cons_succ, List.getElem_cons_zero]
  go_wp2_with fail
  refine ⟨⟨ca1 _ _ _ _ c1, ca1 _ _ _ _ c2, ca1 _ _ _ _ c3, ca1 _ _ _ _ cp⟩, ?_⟩
  refine wpCh_one _ _ _ _ rfl ?_
  simp only [List.getElem_toArray, List.getElem_cons_succ, List.getElem_cons_zero]
  have HSW : Hid (Sl ((W.alloc (.cells #[.int .u8 o.b, .int .u32 o.c] 57)).drewN (nq + 1)) (.slice ad L cap) 57 2 L ((σ.p t).plans.flatMap planRow)) := HS.out.same fun k hk => by
    have hlt := HS.out.lt k hk
    show (W.alloc _).heap[k]? = _
    rw [Below.heap_alloc _ _ k hlt]
  have hcn : Hid (∀ j u, [Value.int .u8 o.b, Value.int .u32 o.c][j]? = some u → ((W.alloc (.cells #[.int .u8 o.b, .int .u32 o.c] 57)).drewN (nq + 1)).cell? ((⟨W.heap.size, 0, none⟩ : Addr).add j) = some u) := by
    intro j u hu
    exact cells_new W _ _ _ rfl j u hu
  obtain ⟨W2, hW2⟩ : ∃ W2, (W.alloc (.cells #[.int .u8 o.b, .int .u32 o.c] 57)).drewN (nq + 1) = W2 := ⟨_, rfl⟩
  have hB2 : Blk W2 mb (encM M) 104 := by rw [← hW2]; exact P1.out.blk.alloc _
  have hN2 : Blk W2 w.heap.size (opC o) 31 := by rw [← hW2]; exact HP2.out.alloc _
  have hP2 : Blk W2 (w.heap.size + 1) (encO false 0 0 rep0) 43 := by rw [← hW2]; exact P3.out.alloc _
  have hsz2 : W2.heap.size = W.heap.size + 1 := by rw [← hW2]; show (W.alloc _).heap.size = _; simp
  have hbel : Below W.heap.size W W2 := by rw [← hW2]; exact below_drewN' ((Below.refl _ _).alloc (Nat.le_refl _) _)
  rw [hW2] at HSW hcn ⊢
  have HB2 := hid_of hB2
  have HPB := hid_of hP2
  have HN2 := hid_of hN2
  have HBEL := hid_of hbel
  clear hW2 hB2 hP2 hbel q1 q2 q3 q4 c0 c1 c2 c3 cp l1 hN2
  go_wp2_with (at_builtin; (refine wpList_append_sl _ rfl (.tmp 61) (.tmp 68) 98 rfl 57 i0 (.agg #[.int .u8 0, .int .u32 0]) 2 8 Tryd.underlying98 hi0 hz0 hz1 hz2 rfl (by decide) _ _ _ rfl HSW.out ⟨W.heap.size, 0, none⟩ 1 1 [.int .u8 o.b, .int .u32 o.c] rfl rfl hcn.out ?d2 ?d3 ?d4 ?_))
  case d2 => intro u hu; simp at hu; rcases hu with rfl | rfl <;> rfl
  case d3 => unfold maxLen; omega
  case d4 => omega
  intro v' w1 hsl hgr hnew
  obtain ⟨ad', cap', rfl⟩ := hsl.form'
  have hblk : ∀ k, k < W2.heap.size → (Value.slice ad L cap).ownBlock ≠ some k → w1.heap[k]? = W2.heap[k]? := fun k hk hne => hgr.block k hk (Ne.symm hne)
  have hob : ∀ k, (Value.slice ad L cap).ownBlock = some k → own1 k = 70 + t := fun k hk => P1.out.opl t (by omega) k (by rw [HV.out]; exact hk)
  have hB3 : Blk w1 mb (encM M) 104 := (hblk mb HB2.out.lt (fun e => by have := hob mb e; rw [P1.out.omb] at this; omega)).trans HB2.out
  have hP3 : Blk w1 (w.heap.size + 1) (encO false 0 0 rep0) 43 := (hblk _ HPB.out.lt (fun e => by have := hob _ e; rw [HO1.out] at this; omega)).trans HPB.out
  have hzw : W2.heap.size ≤ w1.heap.size := hgr.size
  have hN3 : Blk w1 w.heap.size (opC o) 31 := (hblk _ HN2.out.lt (fun e => by have := hob _ e; rw [HO0.out] at this; omega)).trans HN2.out
  have HBK := hid_of hblk
  have HOB := hid_of hob
  have HSL := hid_of hsl
  have HGR := hid_of hgr
  have HNW := hid_of hnew
  have HB3 := hid_of hB3
  have HP3 := hid_of hP3
  have HN3 := hid_of hN3
  have HZW := hid_of hzw
  clear hblk hob hsl hgr hnew hB3 hP3 hN3 hzw HSW hcn
  go_wp2_with fail
  refine ⟨⟨(HN3.out.cell 1).trans (congrArg (fun z => some (Value.int .u32 z)) HT.out), HN3.out.cell 2, HN3.out.cell 3, ?_⟩, ?_⟩
  · rw [HB3.out.cell, mg_pv _ _ (by omega)]; exact congrArg some HV.out
  refine wpCh_rest _ _ _ _ [_, _, _] _ _ rfl (by kernel_rfl) ?_
  simp only [List.getElem_toArray, List.getElem_cons_succ, List.getElem_cons_zero]
  have hblk := HBK.out
  have hob := HOB.out
  have hsl := HSL.out
  have hgr := HGR.out
  have hnew := HNW.out
  have hP3 := HP3.out
  have hzw := HZW.out
  have hB3 := HB3.out
  clear HBK HOB HSL HGR HNW HP3 HZW HB3 HN3 HN2
  obtain ⟨w3, rfl, hl3⟩ := hB3.out
  have hn1m : w.heap.size + 1 ≠ mb := fun e => by have h9 := HO1.out; rw [e, P1.out.omb] at h9; omega
  have HFIN : Hid (MR (mark own1 W.heap.size (70 + t)) (put w3 mb (encM { M with tg := upd M.tg t { M.tg t with pv := .slice ad' (L + 1) cap' } }) 104) mb { M with tg := upd M.tg t { M.tg t with pv := .slice ad' (L + 1) cap' } } tb { σ with p := upd σ.p t { σ.p t with plans := (σ.p t).plans ++ [⟨o.b, o.c⟩] } } ∧ Ext own1 (mark own1 W.heap.size (70 + t)) (fun k => k = 30 ∨ k = 70 + t) W (put w3 mb (encM { M with tg := upd M.tg t { M.tg t with pv := .slice ad' (L + 1) cap' } }) 104) ∧ Blk (put w3 mb (encM { M with tg := upd M.tg t { M.tg t with pv := .slice ad' (L + 1) cap' } }) 104) (w.heap.size + 1) (encO false 0 0 rep0) 43) := by
    have hnm : ∀ k, own1 k ≠ 30 → k ≠ mb := fun k hk e => hk (by rw [e]; exact P1.out.omb)
    have hx : Ext own1 (mark own1 W.heap.size (70 + t)) (fun k => k = 30 ∨ k = 70 + t) W (put w3 mb (encM { M with tg := upd M.tg t { M.tg t with pv := .slice ad' (L + 1) cap' } }) 104) := by
      have g1 := hgr.os.trans HBEL.out.os
      have g2 := hgr.tape.trans HBEL.out.tape
      have g3 := hgr.output.trans HBEL.out.output
      rw [put_os'] at g1
      rw [put_tape'] at g2
      rw [put_out'] at g3
      refine ⟨by rw [put_os']; exact g1, by rw [put_tape']; exact g2, by rw [put_out']; exact g3, ?_, fun k hk => mark_lt hk, fun k hk hs => ?_⟩
      · rw [put_size]; rw [put_size] at hzw; omega
      · have hk1 : k ≠ mb := fun e => hs (.inl (by rw [e]; exact P1.out.omb))
        rw [put_heap_ne _ _ _ _ _ hk1]
        have h9 := hblk k (by omega) (fun e => hs (.inr (hob k e)))
        rw [put_heap_ne _ _ _ _ _ hk1] at h9
        exact h9.trans (HBEL.out.block k hk)
    have hmbl : mb < W.heap.size := P1.out.blk.lt
    have hSl : Sl (put w3 mb (encM { M with tg := upd M.tg t { M.tg t with pv := .slice ad' (L + 1) cap' } }) 104) (.slice ad' (L + 1) cap') 57 2 (L + 1) ((σ.p t).plans.flatMap planRow ++ planRow ⟨o.b, o.c⟩) := by
      refine hsl.same fun k hk => ?_
      have hk1 : k ≠ mb := by
        rcases hnew k hk with h9 | h9
        · exact hnm k (by rw [hob k h9]; omega)
        · omega
      rw [put_heap_ne _ _ _ _ _ hk1, put_heap_ne _ _ _ _ _ hk1]
    have hmr := P1.out.plan ht6 ⟨o.b, o.c⟩ hx (Blk.put_same hl3) (by rw [HL.out]; exact hSl) (fun k hk => by
      rcases hnew k hk with h9 | h9
      · rw [mark_lt (HS.out.lt k h9)]; exact hob k h9
      · exact mark_ge (by omega))
    exact ⟨hmr, hx, (put_heap_ne _ _ _ _ _ hn1m).trans ((put_heap_ne _ _ _ _ _ hn1m).symm.trans hP3)⟩
  have ho21 : mark own1 W.heap.size (70 + t) (w.heap.size + 1) = 50 := (mark_lt (by have := hsz.out; omega)).trans HO1.out
  have HPO := hid_of (mr_post HFIN.out.1 ho21 (P5.out.trans (HFIN.out.2.1.mono (fun k q => by unfold SM; omega))) (Nat.le_succ _) (encO false 0 0 rep0))
  have HBF := hid_of HFIN.out.2.2
  clear hB3 hP3 hblk hob hsl hgr hnew HB2 HPB HBEL hzw hsz2 hi0 hz0 hz1 hz2 HFIN ho21
  go_wp2_with ((with_reducible show wpList _ _ _ ({ dst := none, op := Op.store 43 _ _, type := _, pos := _, after := _, guard := _ } :: _) _ _); rw [← encO_lit0]; refine wpList_store_row (by rfl) 43 (.tmp 4) (.tmp 74) (by rfl) (w.heap.size + 1) (encO false 0 0 rep0) (by rfl) (by rfl) 43 (encO false 0 0 rep0) HBF.out (by rw [Tryd.size43, encO_size]) (by simp only [encO_size]) (encO_one _ _ _ _) ?_; rw [setRow_put HBF.out])
  exact bodyPost_ret (v := .agg (encO false 0 0 rep0)) (results_cell_row (by rfl) _ _ (w.heap.size + 1) 43 _ (0, 0) _ (by rfl) (Blk.put_same HBF.out.lt) Tryd.underlying43 rfl (by rw [Tryd.size43, encO_size])) rfl ⟨rfl, _, ⟨_, tb, HPO.out.1⟩, HPO.out.2⟩
/-- The machine's step, in all cases. -/
theorem mstep_any {own : Nat → Nat} {mb : Nat} {M : MA} {tb : Nat → Int → Nat} {σ : SS} {w : World} (h : MR own w mb M tb σ) {N : Int} {A : Nat} (hX : XInv N A σ) (o : OpD) (hC : Clean σ.x) (hok : OpOK o) (hA : A + 14 < 1000000000) (hN : N < 4294967295) (hg : Glb own w) :
    Calls Tryd.prog 15 #[.pointer (some ⟨mb, 0, none⟩), .agg (opC o)] w fun e w' => e = .returned (.agg (encOb (stepO σ o))) ∧ ∃ own' M' tb', MR own' w' mb M' tb' (stepS σ o) ∧ Ext own own' (fun k => SM k ∨ k = 49 ∨ k = 51) w w' := by
  obtain ⟨hk, ha, hb, _⟩ := hok
  by_cases h0 : o.k = 0
  · exact mstep_read h hX o h0 ha.1 hN
  by_cases h1 : o.k = 1
  · exact mstep_write h hX o h1 ha.1 hN
  by_cases h2 : o.k = 2
  · cases hp : planTaken σ o
    · by_cases h6 : 6 ≤ o.a
      · exact mstep_plan_a h o h2 hp h6
      by_cases hb6 : 6 ≤ o.b
      · exact mstep_plan_b h o h2 hp (by omega) hb6
      refine mstep_plan_c h o h2 hp ha.1 (by omega) (by omega) ?_
      have h9 := (hX.port o.a.toNat (by omega)).n
      unfold planTaken at hp
      rw [decide_eq_true (by omega : o.a < 6), decide_eq_true (by omega : o.b < 6)] at hp
      simp at hp
      omega
    · have hp' := hp
      unfold planTaken at hp'
      simp only [Bool.and_eq_true, decide_eq_true_eq] at hp'
      exact mstep_plan_y h o h2 hp ha.1 hp'.1.1 hb.1 hp'.1.2 hp'.2
  by_cases h3 : o.k = 3
  · exact mstep_tick h hX o h3 ha.1 hC hA hg
  by_cases h4 : o.k = 4
  · exact mstep_iso h hX o h4 ha hb.1
  by_cases h5 : o.k = 5
  · exact mstep_reset h hX o h5
  · exact mstep_other h o (by omega)
end Go.Proofs.Qxb6500750aDoor
