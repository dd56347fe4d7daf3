import Derived.Test.Qxb6500750aDoorStep2
namespace Go.Proofs.Qxb6500750aDoor
open Go.RowKit
attribute [local go_sem] put_size put_cell_same put_cell_ne put_frozen_same put_frozen_ne put_setCell_same put_setCell_ne put_drew
attribute [local go_sem] drewN_setCell drewN_alloc drewN_put
attribute [local go_sem] gg_0 gg_s
/-! ### Plan, at the rig -/
theorem plan_pr (own : Nat → Nat) (g pb : Nat) (q : PS) (p : PlanD) (ho : p.o < 6) (hn : q.plans.length ≤ 8) (w : World) (h : PR own g w pb q) :
    Calls Tryd.prog 32 #[.pointer (some ⟨pb, 0, none⟩), .agg #[.int .u8 p.o, .int .u32 p.l]] w fun e w' => e = .returned (.bool (decide (q.plans.length < 8))) ∧ ∃ own', PR own' g w' pb (if q.plans.length < 8 then { q with plans := q.plans ++ [p] } else q) ∧ Ext own own' (· = g) w w' := by
  obtain ⟨L, rfl, hL⟩ := h
  by_cases h8 : q.plans.length < 8
  · rw [if_pos h8, decide_eq_true h8]
    refine (plan_yes own g L q p h8 ho w hL).mono ?_
    rintro e w' ⟨rfl, own', L', e1, e2, h1, h2⟩
    exact ⟨rfl, own', ⟨L', e1, h1⟩, h2⟩
  · rw [if_neg h8, decide_eq_false h8]
    refine (plan_no L q p (.inl (by omega)) hn w hL.blk hL.plans).mono ?_
    rintro e w' ⟨rfl, hb⟩
    exact ⟨rfl, own, ⟨L, rfl, hL.ext (Ext.of_below (S := fun _ => False) hb) (fun h => h)⟩, Ext.of_below hb⟩
set_option maxRecDepth 100000 in
set_option maxHeartbeats 4000000 in
theorem step_plan_no (own : Nat → Nat) (rg xb : Nat) (pbs : Nat → Nat) (σ : SS) (o : OpD) (hk : o.k = 2) (hab : 6 ≤ o.a ∨ 6 ≤ o.b) (w : World) (h : RRep own w rg xb pbs σ) :
    Calls Tryd.prog 14 #[.pointer (some ⟨rg, 0, none⟩), .agg (opC o)] w fun e w' => e = .returned (.agg (encOb (stepO σ o))) ∧ ∃ own', RRep own' w' rg xb pbs (stepS σ o) ∧ Ext own own' (fun k => k ≤ 6 ∨ k = 49) w w' := by
  have e0 : planTaken σ o = false := by unfold planTaken; rcases hab with h | h <;> simp <;> omega
  have e1 : stepO σ o = ⟨true, 0, 0, rep0⟩ := by unfold stepO; rw [if_neg (by omega), if_pos hk, e0]; rfl
  have e2 : stepS σ o = σ := by unfold stepS; rw [if_neg (by omega), if_neg (by omega), if_pos hk, e0, if_neg (by simp)]
  rw [e1, e2]
  clear e0 e1 e2
  obtain ⟨p1, p2, p3, p4, p5⟩ := step_pre h (opC o)
  have P1 := hid_of p1
  have P3 := hid_of p3
  have P5 := hid_of p5
  have hlt := h.blk.lt
  clear h p1 p3 p5 p2
  unfold opC at *
  rw [hk] at *
  have HB2 := P3
  have HF := hid_of (step_post P1.out p4 (P5.out.mono (S' := fun k => k ≤ 6 ∨ k = 49) (fun _ h => h.elim)) (Nat.le_succ _) (encO true 0 0 rep0))
  rw [encO_zero] at HB2 HF
  by_cases h6 : 6 ≤ o.a
  · clear hab
    go_enter Tryd.func14, Tryd.ntmps14
    go_wp2_with ((with_reducible show wpList _ _ _ ({ dst := none, op := Op.store 43 _ _, type := _, pos := _, after := _, guard := _ } :: _) _ _); rw [← encO_lit0]; refine wpList_store_row (by rfl) 43 (.tmp 4) (.tmp 38) (by rfl) (w.heap.size + 1) (encO true 0 0 rep0) (by rfl) (by rfl) 43 (encO false 0 0 rep0) HB2.out (by rw [Tryd.size43, encO_size]) (by simp only [encO_size]) (encO_one _ _ _ _) ?_; rw [setRow_put HB2.out])
    exact bodyPost_ret (v := .agg (encO true 0 0 rep0)) (results_cell_row (by rfl) _ _ (w.heap.size + 1) 43 _ (0, 0) _ (by rfl) (Blk.put_same HB2.out.lt) Tryd.underlying43 rfl (by rw [Tryd.size43, encO_size])) rfl ⟨rfl, _, HF.out.1, HF.out.2⟩
  · have hb6 : 6 ≤ o.b := by omega
    clear hab
    go_enter Tryd.func14, Tryd.ntmps14
    go_wp2_with ((with_reducible show wpList _ _ _ ({ dst := none, op := Op.store 43 _ _, type := _, pos := _, after := _, guard := _ } :: _) _ _); rw [← encO_lit0]; refine wpList_store_row (by rfl) 43 (.tmp 4) (.tmp 38) (by rfl) (w.heap.size + 1) (encO true 0 0 rep0) (by rfl) (by rfl) 43 (encO false 0 0 rep0) HB2.out (by rw [Tryd.size43, encO_size]) (by simp only [encO_size]) (encO_one _ _ _ _) ?_; rw [setRow_put HB2.out])
    exact bodyPost_ret (v := .agg (encO true 0 0 rep0)) (results_cell_row (by rfl) _ _ (w.heap.size + 1) 43 _ (0, 0) _ (by rfl) (Blk.put_same HB2.out.lt) Tryd.underlying43 rfl (by rw [Tryd.size43, encO_size])) rfl ⟨rfl, _, HF.out.1, HF.out.2⟩
set_option maxRecDepth 100000 in
set_option maxHeartbeats 4000000 in
theorem step_plan (own : Nat → Nat) (rg xb : Nat) (pbs : Nat → Nat) (σ : SS) (o : OpD) (hk : o.k = 2) (ha : 0 ≤ o.a) (ha6 : o.a < 6) (hb : 0 ≤ o.b) (hb6 : o.b < 6) (hn : ∀ s, s < 6 → (σ.p s).plans.length ≤ 8) (w : World) (h : RRep own w rg xb pbs σ) :
    Calls Tryd.prog 14 #[.pointer (some ⟨rg, 0, none⟩), .agg (opC o)] w fun e w' => e = .returned (.agg (encOb (stepO σ o))) ∧ ∃ own', RRep own' w' rg xb pbs (stepS σ o) ∧ Ext own own' (fun k => k ≤ 6 ∨ k = 49) w w' := by
  obtain ⟨s, hs⟩ := Int.eq_ofNat_of_zero_le ha
  have hs6 : s < 6 := by omega
  have hst : o.a.toNat = s := by rw [hs]; rfl
  have e0 : planTaken σ o = decide ((σ.p s).plans.length < 8) := by unfold planTaken; rw [hst]; simp [ha6, hb6]
  obtain ⟨pk, hpk⟩ : ∃ pk, decide ((σ.p s).plans.length < 8) = pk := ⟨_, rfl⟩
  have HPK := hid_of hpk
  have e1 : stepO σ o = ⟨!pk, 0, 0, rep0⟩ := by unfold stepO; rw [if_neg (by omega), if_pos hk, e0, hpk]
  have e2 : stepS σ o = { σ with p := upd σ.p s (if (σ.p s).plans.length < 8 then { σ.p s with plans := (σ.p s).plans ++ [⟨o.b, o.c⟩] } else σ.p s) } := by
    unfold stepS; rw [if_neg (by omega), if_neg (by omega), if_pos hk, e0, hst]
    by_cases h8 : (σ.p s).plans.length < 8
    · simp only [h8, decide_true, if_true]
    · simp only [h8, decide_false, if_false, Bool.false_eq_true]
      rw [upd_id]
  obtain ⟨q1, hq1⟩ : ∃ q1, (if (σ.p s).plans.length < 8 then { σ.p s with plans := (σ.p s).plans ++ [⟨o.b, o.c⟩] } else σ.p s) = q1 := ⟨_, rfl⟩
  have HQ1 := hid_of hq1
  rw [hq1] at e2
  clear hq1
  have hcs : ((w.alloc (.cells (opC o) 31)).alloc (.cells (encO false 0 0 rep0) 43)).cell? ⟨rg, 1 + s, none⟩ = some (.pointer (some ⟨pbs s, 0, none⟩)) := by
    have := (step_pre h (opC o)).1.blk.cell (1 + s)
    rw [gg_s _ _ _ hs6, lk_lt _ _ hs6] at this
    exact this
  have HN := hid_of (hn s hs6)
  clear e0 hst hn hpk
  rw [e1, e2]
  clear e1 e2
  obtain ⟨p1, p2, p3, p4, p5⟩ := step_pre h (opC o)
  have P1 := hid_of p1
  have P3 := hid_of p3
  have P5 := hid_of p5
  have hlt := h.blk.lt
  have hcr := p1.blk.cell 0
  rw [gg_0] at hcr
  unfold opC at *
  have hc1 : ((w.alloc (.cells #[.int .u8 o.k, .int .u32 o.a, .int .u32 o.b, .int .u32 o.c] 31)).alloc (.cells (encO false 0 0 rep0) 43)).cell? ⟨w.heap.size, 1, none⟩ = some (.int .u32 o.a) := p2.cell 1
  have hc2 : ((w.alloc (.cells #[.int .u8 o.k, .int .u32 o.a, .int .u32 o.b, .int .u32 o.c] 31)).alloc (.cells (encO false 0 0 rep0) 43)).cell? ⟨w.heap.size, 2, none⟩ = some (.int .u32 o.b) := p2.cell 2
  have hc3 : ((w.alloc (.cells #[.int .u8 o.k, .int .u32 o.a, .int .u32 o.b, .int .u32 o.c] 31)).alloc (.cells (encO false 0 0 rep0) 43)).cell? ⟨w.heap.size, 3, none⟩ = some (.int .u32 o.c) := p2.cell 3
  clear h p1 p3 p5 p2 hcr
  rw [hk, hs] at *
  go_enter Tryd.func14, Tryd.ntmps14
  go_wp2_with fail
  rw [← encO_zero]
  generalize hW : (w.alloc (.cells #[.int .u8 2, .int .u32 ((s : Nat) : Int), .int .u32 o.b, .int .u32 o.c] 31)).alloc (.cells (encO false 0 0 rep0) 43) = W at *
  generalize mark own w.heap.size 50 = own1 at *
  clear hW
  have hcs' : W.drew.cell? ⟨rg, 1 + s, none⟩ = some (.pointer (some ⟨pbs s, 0, none⟩)) := hcs
  have hc1' : W.drew.cell? ⟨w.heap.size, 1, none⟩ = some (.int .u32 (s : Nat)) := hc1
  have hc2' : W.drew.cell? ⟨w.heap.size, 2, none⟩ = some (.int .u32 o.b) := hc2
  have hc3' : W.drew.cell? ⟨w.heap.size, 3, none⟩ = some (.int .u32 o.c) := hc3
  clear hcs hc1 hc2 hc3
  refine wp_region_float [0, 1, 2, 3, 4, 5, 6, 7, 8, 9, 10, 11, 12] [13, 14, 15, 16] [0, 1, 3, 4, 5, 7, 9, 10, 12] mixed (fun ω => ω = W.drew) (by kernel_rfl) rfl (by kernel_rfl) rfl ?_
  iterate 13 refine wpFl_op _ _ _ _ rfl rfl (fun ω hj => by first | (obtain rfl := hj rfl; go_simp; rfl) | (go_simp; rfl)) ?_
  refine wpFl_nil _ _ ?_
  simp only [Act.put, List.setIfInBounds_toArray]
  refine wpCh_rest _ _ _ _ [_, _, _, _] _ _ rfl (by kernel_rfl) ?_
  simp only [List.getElem_toArray, List.getElem_cons_succ, List.getElem_cons_zero]
  have hdr : Ext own1 own1 (fun _ => False) W W.drew := Ext.drew (Ext.refl _ _ _)
  have PD := hid_of (P1.out.ext hdr (fun _ _ h => h))
  go_wp2_with fail
  refine (plan_pr own1 s (pbs s) (σ.p s) ⟨o.b, o.c⟩ hb6 HN.out W.drew (PD.out.x.port s hs6)).mono ?_
  rw [HPK.out, HQ1.out]
  rintro e w2 ⟨rfl, own2, h2, hx2⟩
  have h3 := PD.out.x.port_turned hs6 h2 hx2
  have hx3 := (hdr.mono (S' := fun k => k ≤ 6 ∨ k = 49) (fun _ h => h.elim)).trans (hx2.mono (S' := fun k => k ≤ 6 ∨ k = 49) (fun _ h => .inl (by omega)))
  have HB2 := hid_of (P3.out.ext hx3 (by rw [p4]; omega))
  have ho2 : own2 (w.heap.size + 1) = 50 := (hx3.keep _ P3.out.lt).trans p4
  have HF := hid_of (step_post (P1.out.turned hx3 h3) ho2 ((P5.out.mono (S' := fun k => k ≤ 6 ∨ k = 49) (fun _ h => h.elim)).trans hx3) (Nat.le_succ _) (encO (!pk) 0 0 rep0))
  clear h2 hx2 hx3 hcs' hc1' hc2' hc3' hdr h3
  go_wp2_with ((with_reducible show wpList _ _ _ ({ dst := none, op := Op.store 43 _ _, type := _, pos := _, after := _, guard := _ } :: _) _ _); rw [← encO_lit0]; refine wpList_store_row (by rfl) 43 (.tmp 4) (.tmp 54) (by rfl) (w.heap.size + 1) (encO (!pk) 0 0 rep0) (by rfl) (by rfl) 43 (encO false 0 0 rep0) HB2.out (by rw [Tryd.size43, encO_size]) (by simp only [encO_size]) (encO_one _ _ _ _) ?_; rw [setRow_put HB2.out])
  exact bodyPost_ret (v := .agg (encO (!pk) 0 0 rep0)) (results_cell_row (by rfl) _ _ (w.heap.size + 1) 43 _ (0, 0) _ (by rfl) (Blk.put_same HB2.out.lt) Tryd.underlying43 rfl (by rw [Tryd.size43, encO_size])) rfl ⟨rfl, own2, HF.out.1, HF.out.2⟩
structure StepOK (σ : SS) (o : OpD) : Prop where
  k : 0 ≤ o.k
  a : 0 ≤ o.a ∧ o.a < 4294967296
  b : 0 ≤ o.b ∧ o.b < 4294967296
  iss : IssOK σ.x
  iso : IsoOK σ.x
  pl : ∀ s, s < 6 → (σ.p s).plans.length ≤ 8
  tick : o.k = 3 → TickOK o.a σ
theorem step_any (own : Nat → Nat) (rg xb : Nat) (pbs : Nat → Nat) (σ : SS) (o : OpD) (hok : StepOK σ o) (w : World) (h : RRep own w rg xb pbs σ) (hg : Glb own w) :
    Calls Tryd.prog 14 #[.pointer (some ⟨rg, 0, none⟩), .agg (opC o)] w fun e w' => e = .returned (.agg (encOb (stepO σ o))) ∧ ∃ own', RRep own' w' rg xb pbs (stepS σ o) ∧ Ext own own' (fun k => k ≤ 6 ∨ k = 49) w w' := by
  have hk := hok.k
  by_cases h0 : o.k = 0
  · exact step_read own rg xb pbs σ o h0 hok.a.1 hok.a.2 hok.iss w h
  by_cases h1 : o.k = 1
  · exact step_write own rg xb pbs σ o h1 hok.a.1 hok.a.2 hok.iss w h
  by_cases h2 : o.k = 2
  · by_cases hab : 6 ≤ o.a ∨ 6 ≤ o.b
    · exact step_plan_no own rg xb pbs σ o h2 hab w h
    · exact step_plan own rg xb pbs σ o h2 hok.a.1 (by omega) hok.b.1 (by omega) hok.pl w h
  by_cases h3 : o.k = 3
  · exact step_tick own rg xb pbs σ o h3 (hok.tick h3) w h hg
  by_cases h4 : o.k = 4
  · exact step_isolate own rg xb pbs σ o h4 hok.a.1 hok.a.2 hok.b.1 hok.b.2 hok.iso w h
  by_cases h5 : o.k = 5
  · exact step_reset own rg xb pbs σ o h5 w h
  exact step_other own rg xb pbs σ o (by omega) w h
end Go.Proofs.Qxb6500750aDoor
