import Derived.Test.Qxb6500749aBus
namespace Go.Proofs.Qxb6500749a
open Go.RowKit
attribute [local go_sem] put_size put_cell_same put_cell_ne put_frozen_same put_frozen_ne put_setCell_same put_setCell_ne put_drew
attribute [local go_sem] drewN_setCell drewN_alloc drewN_put
/-! ### A request taken -/
theorem info68 : (Try.prog.info? 68).map (fun i => (i.zero, i.size, i.bytes)) = some (some (.agg #[.bool false, .int .u32 0, .int .u32 0, .bool false, .int .u32 0]), 5, 20) := by kernel_rfl
set_option linter.unusedVariables false in
set_option maxRecDepth 100000 in
set_option maxHeartbeats 4000000 in
theorem iss_n0 (ub mb : Nat) (lv gv : Value) (m : Int → Int) (log : List TR) (left : Int) (rw : Bool) (ad da : Int) (had : W32 ad) (hmp : mapF ad = false) (w : World) (h : UB w ub mb lv gv ⟨m, [], log, false, left⟩) (hok : BusD.Ok ⟨m, [], log, false, left⟩) :
    Calls Try.prog 66 #[.pointer (some ⟨ub, 0, none⟩), .agg #[.bool rw, .int .u32 ad, .int .u32 da]] w fun e w' => e = .returned (.bool true) ∧ ∃ lv' gv', UB w' ub mb lv' gv' ⟨m, [], log ++ [⟨rw, ad, da, true, 0⟩], true, 1⟩ ∧ Fr (KI ub mb gv) w w' ∧ (∀ k, lv'.ownBlock = some k → lv.ownBlock = some k) ∧ (∀ k, gv'.ownBlock = some k → gv.ownBlock = some k ∨ w.heap.size ≤ k) := by
  obtain ⟨ga, gc, hgv⟩ := h.log.form'
  obtain ⟨gn, hgn⟩ : ∃ gn, log.length = gn := ⟨_, rfl⟩
  simp only [] at hgv
  rw [hgn] at hgv
  have hglen : gn < 1000000000000 := by rw [← hgn]; exact hok.glen
  obtain ⟨la, lc, hlv⟩ := h.lat.form'
  simp only [List.length_nil] at hlv
  subst hlv
  subst hgv
  have c3 : w.cell? ⟨ub, 3, none⟩ = some (.bool false) := h.blk.cell 3
  have c3' := ca1 w (.cells #[.bool rw, .int .u32 ad, .int .u32 da] 64) _ _ c3
  obtain ⟨W, hW⟩ : ∃ W, (w.alloc (.cells #[.bool rw, .int .u32 ad, .int .u32 da] 64)).alloc (.cells #[.bool false, .int .u32 0] 66) = W := ⟨_, rfl⟩
  have HI : Hid (IR w W ub mb (.slice la 0 lc) (.slice ga gn gc) (.slice la 0 lc) (.slice ga gn gc) w.heap.size (w.heap.size + 1) #[.bool rw, .int .u32 ad, .int .u32 da] #[.bool false, .int .u32 0] ⟨m, [], log, false, left⟩) := by
    rw [← hW]; exact ir_start h _ _
  have q0 : W.cell? ⟨w.heap.size, 0, none⟩ = some (.bool rw) := HI.out.hq.cell 0
  have q1 : W.cell? ⟨w.heap.size, 1, none⟩ = some (.int .u32 ad) := HI.out.hq.cell 1
  have q2 : W.cell? ⟨w.heap.size, 2, none⟩ = some (.int .u32 da) := HI.out.hq.cell 2
  have HM := hid_of (mapped_any ad had W)
  rw [hmp] at HM
  have HGN := hid_of hgn
  have HLI : Hid True := trivial
  clear h hok hgn had hmp
  go_enter Try.func66, Try.ntmps66
  go_upto_region 5 with fail
  clear hW c3 c3'
  refine wp_region_list ?_
  go_wp2_with fail
  refine HM.out.mono ?_
  rintro e w1 ⟨rfl, hw1⟩
  obtain rfl := hw1.symm
  clear HM
  obtain ⟨u, hu, hl⟩ := HI.out.hr.out
  have HI2 : Hid (IR w (put u (w.heap.size + 1) #[.bool true, .int .u32 0] 66) ub mb (.slice la 0 lc) (.slice ga gn gc) (.slice la 0 lc) (.slice ga gn gc) w.heap.size (w.heap.size + 1) #[.bool rw, .int .u32 ad, .int .u32 da] #[.bool true, .int .u32 0] ⟨m, [], log, false, left⟩) := by
    have := HI.out.resp #[.bool true, .int .u32 0]
    rw [hu, put_put] at this
    exact this
  clear HI q0 q1 q2
  subst hu
  go_upto_region 9 with fail
  obtain ⟨w2, hw2⟩ : ∃ w2, put u (w.heap.size + 1) #[.bool true, .int .u32 0] 66 = w2 := ⟨_, rfl⟩
  rw [hw2] at HI2 ⊢
  clear hw2 hl
  have HI3 : Hid (IR w w2.drew ub mb (.slice la 0 lc) (.slice ga gn gc) (.slice la 0 lc) (.slice ga gn gc) w.heap.size (w.heap.size + 1) #[.bool rw, .int .u32 ad, .int .u32 da] #[.bool true, .int .u32 0] ⟨m, [], log, false, left⟩) := HI2.out.drew
  clear HI2
  obtain ⟨i0, hinf, hz0, hz1, hz2⟩ := info_parts info68
  have hSg : Sl w2.drew (.slice ga gn gc) 68 5 gn (log.flatMap trow) := by
    have h9 : Sl w2.drew (.slice ga gn gc) 68 5 log.length (log.flatMap trow) := HI3.out.u.log
    rw [HGN.out] at h9; exact h9
  have HSW : Hid (Sl (w2.drew.alloc (.cells [.bool rw, .int .u32 ad, .int .u32 da, .bool true, .int .u32 (0)].toArray 68)) (.slice ga gn gc) 68 5 gn (log.flatMap trow)) := hSg.same fun k hk => Below.heap_alloc _ _ k (hSg.lt k hk)
  have HIA : Hid (IR w (w2.drew.alloc (.cells [.bool rw, .int .u32 ad, .int .u32 da, .bool true, .int .u32 (0)].toArray 68)) ub mb (.slice la 0 lc) (.slice ga gn gc) (.slice la 0 lc) (.slice ga gn gc) w.heap.size (w.heap.size + 1) #[.bool rw, .int .u32 ad, .int .u32 da] #[.bool true, .int .u32 (0)] ⟨m, [], log, false, left⟩) := HI3.out.below ((Below.refl _ _).alloc (Nat.le_refl _) _)
  clear hSg
  refine wp_region_float [0, 1, 2, 3, 4, 5, 6, 7] [8, 9, 10, 11, 12] [0, 1, 2, 3, 7] mixed (fun ω => ω.cell? ⟨ub, 2, none⟩ = some (.slice ga gn gc) ∧ Blk ω w.heap.size #[.bool rw, .int .u32 ad, .int .u32 da] 64 ∧ Blk ω (w.heap.size + 1) #[.bool true, .int .u32 (0)] 66) (by kernel_rfl) rfl (by kernel_rfl) ⟨HI3.out.u.blk.cell 2, HI3.out.hq, HI3.out.hr⟩ ?_
  iterate 4 refine wpFl_op _ _ _ _ rfl rfl (fun ω hj => by go_simp; rfl) ?_
  refine wpFl_op _ _ _ _ rfl rfl (fun ω hj => by have q := (hj rfl).1; go_simp; rfl) ?_
  refine wpFl_op _ _ _ _ rfl rfl (fun ω hj => by
    have q0 : ω.cell? ⟨w.heap.size, 0, none⟩ = some (.bool rw) := (hj rfl).2.1.cell 0
    have q1 : ω.cell? ⟨w.heap.size, 1, none⟩ = some (.int .u32 ad) := (hj rfl).2.1.cell 1
    have q2 : ω.cell? ⟨w.heap.size, 2, none⟩ = some (.int .u32 da) := (hj rfl).2.1.cell 2
    go_simp; rfl) ?_
  refine wpFl_op _ _ _ _ rfl rfl (fun ω hj => by
    have q0 : ω.cell? ⟨w.heap.size + 1, 0, none⟩ = some (.bool true) := (hj rfl).2.2.cell 0
    have q1 : ω.cell? ⟨w.heap.size + 1, 1, none⟩ = some (.int .u32 (0)) := (hj rfl).2.2.cell 1
    go_simp; rfl) ?_
  refine wpFl_op _ _ _ _ rfl rfl (fun ω hj => by go_simp; rfl) ?_
  refine wpFl_nil _ _ ?_
  simp only [Act.put, List.setIfInBounds_toArray]
  refine wpCh_one _ _ _ _ rfl ?_
  simp only [List.getElem_toArray, List.getElem_cons_succ, List.getElem_cons_zero]
  go_wp2_with fail
  refine ⟨⟨HIA.out.u.blk.cell 2, HIA.out.hq, HIA.out.hr⟩, ?_⟩
  clear HI3
  refine wpCh_rest _ _ _ _ [_, _, _, _] _ _ rfl (by kernel_rfl) ?_
  simp only [List.getElem_toArray, List.getElem_cons_succ, List.getElem_cons_zero]
  go_wp2_with (at_builtin; (refine wpList_append_sl _ rfl (.tmp 39) (.tmp 43) 39 rfl 68 i0 (.agg #[.bool false, .int .u32 0, .int .u32 0, .bool false, .int .u32 0]) 5 20 Try.underlying39 hinf hz0 hz1 hz2 rfl (by decide) _ _ _ rfl HSW.out ⟨w2.drew.heap.size, 0, none⟩ 1 1 [.bool rw, .int .u32 ad, .int .u32 da, .bool true, .int .u32 (0)] rfl rfl ?d1 ?d2 ?d3 ?d4 ?_))
  case d1 => exact cells_new _ _ _ _ rfl
  case d2 => intro v hv; simp at hv; rcases hv with rfl | rfl | rfl | rfl | rfl <;> rfl
  case d3 => unfold maxLen; omega
  case d4 => omega
  intro v' w3 hsl hgr hnew
  obtain ⟨ba, bo, bc, rfl, hbc, hbl⟩ := hsl.form (by omega)
  have hub3 : Blk w3 ub (ubV mb (.slice la 0 lc) (.slice ga gn gc) false left) 79 := by
    have := HIA.out.u.blk
    exact (hgr.block ub this.lt (fun e => HIA.out.u.gu ub e.symm rfl)).trans this
  have hI4 := HIA.out.grow hgr (gv' := .slice (some ⟨ba, bo, none⟩) (gn + 1) bc) ⟨rw, ad, da, true, 0⟩ (by show Sl w3 _ 68 5 (log.length + 1) (log.flatMap trow ++ _); rw [HGN.out]; exact hsl) (fun k hk => or_le (hnew k hk) (by first | (simp; done) | (simp; exact Nat.le_refl _)))
  obtain ⟨u3, hu3, hl3⟩ := hub3.out
  rw [hu3, put_put] at hI4
  have HI4 : Hid (IR w (put u3 ub (ubV mb (.slice la 0 lc) (.slice (some ⟨ba, bo, none⟩) (gn + 1) bc) false left) 79) ub mb (.slice la 0 lc) (.slice ga gn gc) (.slice la 0 lc) (.slice (some ⟨ba, bo, none⟩) (gn + 1) bc) w.heap.size (w.heap.size + 1) #[.bool rw, .int .u32 ad, .int .u32 da] #[.bool true, .int .u32 (0)] ⟨m, [], log ++ [⟨rw, ad, da, true, 0⟩], false, left⟩) := hI4
  clear hI4 HIA HSW hub3 hsl hgr hnew hbc hbl hglen hinf hz0 hz1 hz2
  subst hu3
  have HFIN : Hid (IR w (put u3 ub (ubV mb (.slice la 0 lc) (.slice (some ⟨ba, bo, none⟩) (gn + 1) bc) true 1) 79) ub mb (.slice la 0 lc) (.slice ga gn gc) (.slice la 0 lc) (.slice (some ⟨ba, bo, none⟩) (gn + 1) bc) w.heap.size (w.heap.size + 1) #[.bool rw, .int .u32 ad, .int .u32 da] #[.bool true, .int .u32 (0)] ⟨m, [], log ++ [⟨rw, ad, da, true, 0⟩], true, 1⟩) := by
    have := HI4.out.row (U' := ⟨m, [], log ++ [⟨rw, ad, da, true, 0⟩], true, 1⟩) rfl HI4.out.u.lat HI4.out.u.log HI4.out.lo HI4.out.go
    rw [put_put] at this
    exact this
  clear HI4
  unfold ubV
  go_wp2_with fail
  go_ret
  exact ⟨rfl, _, _, HFIN.out.u, HFIN.out.fr, HFIN.out.lo, HFIN.out.go⟩
set_option linter.unusedVariables false in
set_option maxRecDepth 100000 in
set_option maxHeartbeats 4000000 in
theorem iss_n1 (ub mb : Nat) (lv gv : Value) (m : Int → Int) (l0 : Int) (lat : List Int) (log : List TR) (left : Int) (rw : Bool) (ad da : Int) (had : W32 ad) (hmp : mapF ad = false) (w : World) (h : UB w ub mb lv gv ⟨m, (l0 :: lat), log, false, left⟩) (hok : BusD.Ok ⟨m, (l0 :: lat), log, false, left⟩) :
    Calls Try.prog 66 #[.pointer (some ⟨ub, 0, none⟩), .agg #[.bool rw, .int .u32 ad, .int .u32 da]] w fun e w' => e = .returned (.bool true) ∧ ∃ lv' gv', UB w' ub mb lv' gv' ⟨m, lat, log ++ [⟨rw, ad, da, true, 0⟩], true, 1 + l0⟩ ∧ Fr (KI ub mb gv) w w' ∧ (∀ k, lv'.ownBlock = some k → lv.ownBlock = some k) ∧ (∀ k, gv'.ownBlock = some k → gv.ownBlock = some k ∨ w.heap.size ≤ k) := by
  obtain ⟨ga, gc, hgv⟩ := h.log.form'
  obtain ⟨gn, hgn⟩ : ∃ gn, log.length = gn := ⟨_, rfl⟩
  simp only [] at hgv
  rw [hgn] at hgv
  have hglen : gn < 1000000000000 := by rw [← hgn]; exact hok.glen
  obtain ⟨lb, lo, lc, hlv, hlc, hlb⟩ := h.lat.form (by simp)
  simp only [List.length_cons] at hlv
  have hlc9 : (l0 :: lat).length ≤ lc := hlc
  obtain ⟨ln, hln⟩ : ∃ ln, lat.length = ln := ⟨_, rfl⟩
  rw [hln] at hlv
  have hl63 := hok.lat l0 (by simp)
  have hadd : (1 + l0) % 4294967296 = 1 + l0 := by omega
  have hln16 : ln ≤ 15 := by have := hok.llen; simp at this; omega
  have hlnc : ln + 1 ≤ lc := by simp at hlc9; omega
  have hlcm : lc ≤ maxLen := by
    rcases h.lat.2 with ⟨_, h0⟩ | ⟨b', off', cap', cs', e1, _, _, h2, _⟩
    · simp at h0
    · rw [hlv] at e1; injection e1 with _ _ e3; omega
  subst hlv
  clear hlc hlc9 hlb
  subst hgv
  have c3 : w.cell? ⟨ub, 3, none⟩ = some (.bool false) := h.blk.cell 3
  have c3' := ca1 w (.cells #[.bool rw, .int .u32 ad, .int .u32 da] 64) _ _ c3
  obtain ⟨W, hW⟩ : ∃ W, (w.alloc (.cells #[.bool rw, .int .u32 ad, .int .u32 da] 64)).alloc (.cells #[.bool false, .int .u32 0] 66) = W := ⟨_, rfl⟩
  have HI : Hid (IR w W ub mb (.slice (some ⟨lb, lo, none⟩) (ln + 1) lc) (.slice ga gn gc) (.slice (some ⟨lb, lo, none⟩) (ln + 1) lc) (.slice ga gn gc) w.heap.size (w.heap.size + 1) #[.bool rw, .int .u32 ad, .int .u32 da] #[.bool false, .int .u32 0] ⟨m, (l0 :: lat), log, false, left⟩) := by
    rw [← hW]; exact ir_start h _ _
  have q0 : W.cell? ⟨w.heap.size, 0, none⟩ = some (.bool rw) := HI.out.hq.cell 0
  have q1 : W.cell? ⟨w.heap.size, 1, none⟩ = some (.int .u32 ad) := HI.out.hq.cell 1
  have q2 : W.cell? ⟨w.heap.size, 2, none⟩ = some (.int .u32 da) := HI.out.hq.cell 2
  have HM := hid_of (mapped_any ad had W)
  rw [hmp] at HM
  have HGN := hid_of hgn
  have HLI : Hid True := trivial
  have HLN := hid_of hln
  clear hln hl63
  clear h hok hgn had hmp
  go_enter Try.func66, Try.ntmps66
  go_upto_region 5 with fail
  clear hW c3 c3'
  refine wp_region_list ?_
  go_wp2_with fail
  refine HM.out.mono ?_
  rintro e w1 ⟨rfl, hw1⟩
  obtain rfl := hw1.symm
  clear HM
  obtain ⟨u, hu, hl⟩ := HI.out.hr.out
  have HI2 : Hid (IR w (put u (w.heap.size + 1) #[.bool true, .int .u32 0] 66) ub mb (.slice (some ⟨lb, lo, none⟩) (ln + 1) lc) (.slice ga gn gc) (.slice (some ⟨lb, lo, none⟩) (ln + 1) lc) (.slice ga gn gc) w.heap.size (w.heap.size + 1) #[.bool rw, .int .u32 ad, .int .u32 da] #[.bool true, .int .u32 0] ⟨m, (l0 :: lat), log, false, left⟩) := by
    have := HI.out.resp #[.bool true, .int .u32 0]
    rw [hu, put_put] at this
    exact this
  clear HI q0 q1 q2
  subst hu
  go_upto_region 9 with fail
  obtain ⟨w2, hw2⟩ : ∃ w2, put u (w.heap.size + 1) #[.bool true, .int .u32 0] 66 = w2 := ⟨_, rfl⟩
  rw [hw2] at HI2 ⊢
  clear hw2 hl
  have HI3 : Hid (IR w w2.drew ub mb (.slice (some ⟨lb, lo, none⟩) (ln + 1) lc) (.slice ga gn gc) (.slice (some ⟨lb, lo, none⟩) (ln + 1) lc) (.slice ga gn gc) w.heap.size (w.heap.size + 1) #[.bool rw, .int .u32 ad, .int .u32 da] #[.bool true, .int .u32 0] ⟨m, (l0 :: lat), log, false, left⟩) := HI2.out.drew
  clear HI2
  obtain ⟨i0, hinf, hz0, hz1, hz2⟩ := info_parts info68
  have hSg : Sl w2.drew (.slice ga gn gc) 68 5 gn (log.flatMap trow) := by
    have h9 : Sl w2.drew (.slice ga gn gc) 68 5 log.length (log.flatMap trow) := HI3.out.u.log
    rw [HGN.out] at h9; exact h9
  have HSW : Hid (Sl (w2.drew.alloc (.cells [.bool rw, .int .u32 ad, .int .u32 da, .bool true, .int .u32 (0)].toArray 68)) (.slice ga gn gc) 68 5 gn (log.flatMap trow)) := hSg.same fun k hk => Below.heap_alloc _ _ k (hSg.lt k hk)
  have HIA : Hid (IR w (w2.drew.alloc (.cells [.bool rw, .int .u32 ad, .int .u32 da, .bool true, .int .u32 (0)].toArray 68)) ub mb (.slice (some ⟨lb, lo, none⟩) (ln + 1) lc) (.slice ga gn gc) (.slice (some ⟨lb, lo, none⟩) (ln + 1) lc) (.slice ga gn gc) w.heap.size (w.heap.size + 1) #[.bool rw, .int .u32 ad, .int .u32 da] #[.bool true, .int .u32 (0)] ⟨m, (l0 :: lat), log, false, left⟩) := HI3.out.below ((Below.refl _ _).alloc (Nat.le_refl _) _)
  clear hSg
  refine wp_region_float [0, 1, 2, 3, 4, 5, 6, 7] [8, 9, 10, 11, 12] [0, 1, 2, 3, 7] mixed (fun ω => ω.cell? ⟨ub, 2, none⟩ = some (.slice ga gn gc) ∧ Blk ω w.heap.size #[.bool rw, .int .u32 ad, .int .u32 da] 64 ∧ Blk ω (w.heap.size + 1) #[.bool true, .int .u32 (0)] 66) (by kernel_rfl) rfl (by kernel_rfl) ⟨HI3.out.u.blk.cell 2, HI3.out.hq, HI3.out.hr⟩ ?_
  iterate 4 refine wpFl_op _ _ _ _ rfl rfl (fun ω hj => by go_simp; rfl) ?_
  refine wpFl_op _ _ _ _ rfl rfl (fun ω hj => by have q := (hj rfl).1; go_simp; rfl) ?_
  refine wpFl_op _ _ _ _ rfl rfl (fun ω hj => by
    have q0 : ω.cell? ⟨w.heap.size, 0, none⟩ = some (.bool rw) := (hj rfl).2.1.cell 0
    have q1 : ω.cell? ⟨w.heap.size, 1, none⟩ = some (.int .u32 ad) := (hj rfl).2.1.cell 1
    have q2 : ω.cell? ⟨w.heap.size, 2, none⟩ = some (.int .u32 da) := (hj rfl).2.1.cell 2
    go_simp; rfl) ?_
  refine wpFl_op _ _ _ _ rfl rfl (fun ω hj => by
    have q0 : ω.cell? ⟨w.heap.size + 1, 0, none⟩ = some (.bool true) := (hj rfl).2.2.cell 0
    have q1 : ω.cell? ⟨w.heap.size + 1, 1, none⟩ = some (.int .u32 (0)) := (hj rfl).2.2.cell 1
    go_simp; rfl) ?_
  refine wpFl_op _ _ _ _ rfl rfl (fun ω hj => by go_simp; rfl) ?_
  refine wpFl_nil _ _ ?_
  simp only [Act.put, List.setIfInBounds_toArray]
  refine wpCh_one _ _ _ _ rfl ?_
  simp only [List.getElem_toArray, List.getElem_cons_succ, List.getElem_cons_zero]
  go_wp2_with fail
  refine ⟨⟨HIA.out.u.blk.cell 2, HIA.out.hq, HIA.out.hr⟩, ?_⟩
  clear HI3
  refine wpCh_rest _ _ _ _ [_, _, _, _] _ _ rfl (by kernel_rfl) ?_
  simp only [List.getElem_toArray, List.getElem_cons_succ, List.getElem_cons_zero]
  go_wp2_with (at_builtin; (refine wpList_append_sl _ rfl (.tmp 39) (.tmp 43) 39 rfl 68 i0 (.agg #[.bool false, .int .u32 0, .int .u32 0, .bool false, .int .u32 0]) 5 20 Try.underlying39 hinf hz0 hz1 hz2 rfl (by decide) _ _ _ rfl HSW.out ⟨w2.drew.heap.size, 0, none⟩ 1 1 [.bool rw, .int .u32 ad, .int .u32 da, .bool true, .int .u32 (0)] rfl rfl ?d1 ?d2 ?d3 ?d4 ?_))
  case d1 => exact cells_new _ _ _ _ rfl
  case d2 => intro v hv; simp at hv; rcases hv with rfl | rfl | rfl | rfl | rfl <;> rfl
  case d3 => unfold maxLen; omega
  case d4 => omega
  intro v' w3 hsl hgr hnew
  obtain ⟨ba, bo, bc, rfl, hbc, hbl⟩ := hsl.form (by omega)
  have hub3 : Blk w3 ub (ubV mb (.slice (some ⟨lb, lo, none⟩) (ln + 1) lc) (.slice ga gn gc) false left) 79 := by
    have := HIA.out.u.blk
    exact (hgr.block ub this.lt (fun e => HIA.out.u.gu ub e.symm rfl)).trans this
  have hI4 := HIA.out.grow hgr (gv' := .slice (some ⟨ba, bo, none⟩) (gn + 1) bc) ⟨rw, ad, da, true, 0⟩ (by show Sl w3 _ 68 5 (log.length + 1) (log.flatMap trow ++ _); rw [HGN.out]; exact hsl) (fun k hk => or_le (hnew k hk) (by first | (simp; done) | (simp; exact Nat.le_refl _)))
  obtain ⟨u3, hu3, hl3⟩ := hub3.out
  rw [hu3, put_put] at hI4
  have HI4 : Hid (IR w (put u3 ub (ubV mb (.slice (some ⟨lb, lo, none⟩) (ln + 1) lc) (.slice (some ⟨ba, bo, none⟩) (gn + 1) bc) false left) 79) ub mb (.slice (some ⟨lb, lo, none⟩) (ln + 1) lc) (.slice ga gn gc) (.slice (some ⟨lb, lo, none⟩) (ln + 1) lc) (.slice (some ⟨ba, bo, none⟩) (gn + 1) bc) w.heap.size (w.heap.size + 1) #[.bool rw, .int .u32 ad, .int .u32 da] #[.bool true, .int .u32 (0)] ⟨m, (l0 :: lat), log ++ [⟨rw, ad, da, true, 0⟩], false, left⟩) := hI4
  clear hI4 HIA HSW hub3 hsl hgr hnew hbc hbl hglen hinf hz0 hz1 hz2
  subst hu3
  have hlu : lb ≠ ub := HI4.out.u.lu lb rfl
  have hl0 : u3.cell? ⟨lb, lo, none⟩ = some (.int .u32 l0) := by
    have h9 := HI4.out.u.lat.cell rfl 0 (by simp [prow])
    rw [put_cell_ne _ _ _ _ _ _ _ hlu] at h9
    simpa [prow] using h9
  have htl := HI4.out.u.lat
  simp only [List.length_cons] at htl
  rw [HLN.out] at htl
  have htl := htl.tail rfl
  have e1 : (prow (l0 :: lat)).drop 1 = prow lat := rfl
  rw [e1] at htl
  have HTL := hid_of htl
  clear htl e1
  unfold ubV at HI4
  have h1n : (1 : Int) ≤ ((ln : Nat) : Int) + 1 := by omega
  have h2n : (((ln : Nat) : Int) + 1) ≤ (lc : Nat) := by omega
  by_cases hc1 : lc = 1
  · subst hc1
    have hln0 : ln = 0 := by omega
    subst hln0
    have HFIN : Hid (IR w (put u3 ub (ubV mb (.slice (some ⟨lb, lo, none⟩) 0 0) (.slice (some ⟨ba, bo, none⟩) (gn + 1) bc) true (1 + l0)) 79) ub mb (.slice (some ⟨lb, lo, none⟩) (0 + 1) 1) (.slice ga gn gc) (.slice (some ⟨lb, lo, none⟩) 0 0) (.slice (some ⟨ba, bo, none⟩) (gn + 1) bc) w.heap.size (w.heap.size + 1) #[.bool rw, .int .u32 ad, .int .u32 da] #[.bool true, .int .u32 (0)] ⟨m, lat, log ++ [⟨rw, ad, da, true, 0⟩], true, 1 + l0⟩) := by
      have h9 := HTL.out
      rw [if_pos rfl] at h9
      have := HI4.out.row (U' := ⟨m, lat, log ++ [⟨rw, ad, da, true, 0⟩], true, 1 + l0⟩) (lv' := .slice (some ⟨lb, lo, none⟩) 0 0) rfl (by show Sl _ _ 30 1 lat.length (prow lat); rw [HLN.out]; exact h9) HI4.out.u.log (fun k hk => HI4.out.lo k hk) HI4.out.go
      rw [put_put] at this
      exact this
    clear HI4 HTL
    unfold ubV
    go_upto_region 12 with fail
    refine wp_region_qtail 11 mixed (by kernel_rfl) ?_
    simp only [List.take_succ_cons, List.take_zero, List.drop_succ_cons, List.drop_zero]
    repeat (go_big_quiet_step (fail))
    refine wpQuiet_nil ?_
    go_wp2_with fail
    go_ret
    have HF := HFIN.out.drew
    exact ⟨rfl, _, _, HF.u, HF.fr, HF.lo, HF.go⟩
  · have hc1' : (lc = 1) = False := by simp [hc1]
    have HFIN : Hid (IR w (put u3 ub (ubV mb (.slice (some ⟨lb, lo + 1, none⟩) ln (lc - 1)) (.slice (some ⟨ba, bo, none⟩) (gn + 1) bc) true (1 + l0)) 79) ub mb (.slice (some ⟨lb, lo, none⟩) (ln + 1) lc) (.slice ga gn gc) (.slice (some ⟨lb, lo + 1, none⟩) ln (lc - 1)) (.slice (some ⟨ba, bo, none⟩) (gn + 1) bc) w.heap.size (w.heap.size + 1) #[.bool rw, .int .u32 ad, .int .u32 da] #[.bool true, .int .u32 (0)] ⟨m, lat, log ++ [⟨rw, ad, da, true, 0⟩], true, 1 + l0⟩) := by
      have h9 := HTL.out
      rw [if_neg hc1] at h9
      have := HI4.out.row (U' := ⟨m, lat, log ++ [⟨rw, ad, da, true, 0⟩], true, 1 + l0⟩) (lv' := .slice (some ⟨lb, lo + 1, none⟩) ln (lc - 1)) rfl (by show Sl _ _ 30 1 lat.length (prow lat); rw [HLN.out]; exact h9) HI4.out.u.log (fun k hk => HI4.out.lo k hk) HI4.out.go
      rw [put_put] at this
      exact this
    clear HI4 HTL
    unfold ubV
    go_upto_region 12 with fail
    refine wp_region_qtail 11 mixed (by kernel_rfl) ?_
    simp only [List.take_succ_cons, List.take_zero, List.drop_succ_cons, List.drop_zero]
    repeat (go_big_quiet_step (fail))
    refine wpQuiet_nil ?_
    go_wp2_with fail
    go_ret
    have HF := HFIN.out.drew
    exact ⟨rfl, _, _, HF.u, HF.fr, HF.lo, HF.go⟩
set_option linter.unusedVariables false in
set_option maxRecDepth 100000 in
set_option maxHeartbeats 4000000 in
theorem iss_w0 (ub mb : Nat) (lv gv : Value) (m : Int → Int) (log : List TR) (left : Int) (ad da : Int) (had : W32 ad) (hmp : mapF ad = true) (w : World) (h : UB w ub mb lv gv ⟨m, [], log, false, left⟩) (hok : BusD.Ok ⟨m, [], log, false, left⟩) :
    Calls Try.prog 66 #[.pointer (some ⟨ub, 0, none⟩), .agg #[.bool true, .int .u32 ad, .int .u32 da]] w fun e w' => e = .returned (.bool true) ∧ ∃ lv' gv', UB w' ub mb lv' gv' ⟨(fun x => if x = ad then da else m x), [], log ++ [⟨true, ad, da, false, 0⟩], true, 1⟩ ∧ Fr (KI ub mb gv) w w' ∧ (∀ k, lv'.ownBlock = some k → lv.ownBlock = some k) ∧ (∀ k, gv'.ownBlock = some k → gv.ownBlock = some k ∨ w.heap.size ≤ k) := by
  obtain ⟨ga, gc, hgv⟩ := h.log.form'
  obtain ⟨gn, hgn⟩ : ∃ gn, log.length = gn := ⟨_, rfl⟩
  simp only [] at hgv
  rw [hgn] at hgv
  have hglen : gn < 1000000000000 := by rw [← hgn]; exact hok.glen
  obtain ⟨la, lc, hlv⟩ := h.lat.form'
  simp only [List.length_nil] at hlv
  subst hlv
  subst hgv
  have c3 : w.cell? ⟨ub, 3, none⟩ = some (.bool false) := h.blk.cell 3
  have c3' := ca1 w (.cells #[.bool true, .int .u32 ad, .int .u32 da] 64) _ _ c3
  obtain ⟨W, hW⟩ : ∃ W, (w.alloc (.cells #[.bool true, .int .u32 ad, .int .u32 da] 64)).alloc (.cells #[.bool false, .int .u32 0] 66) = W := ⟨_, rfl⟩
  have HI : Hid (IR w W ub mb (.slice la 0 lc) (.slice ga gn gc) (.slice la 0 lc) (.slice ga gn gc) w.heap.size (w.heap.size + 1) #[.bool true, .int .u32 ad, .int .u32 da] #[.bool false, .int .u32 0] ⟨m, [], log, false, left⟩) := by
    rw [← hW]; exact ir_start h _ _
  have q0 : W.cell? ⟨w.heap.size, 0, none⟩ = some (.bool true) := HI.out.hq.cell 0
  have q1 : W.cell? ⟨w.heap.size, 1, none⟩ = some (.int .u32 ad) := HI.out.hq.cell 1
  have q2 : W.cell? ⟨w.heap.size, 2, none⟩ = some (.int .u32 da) := HI.out.hq.cell 2
  have HM := hid_of (mapped_any ad had W)
  rw [hmp] at HM
  have HGN := hid_of hgn
  have HLI : Hid True := trivial
  clear h hok hgn had hmp
  go_enter Try.func66, Try.ntmps66
  go_upto_region 5 with fail
  clear hW c3 c3'
  refine wp_region_list ?_
  go_wp2_with fail
  refine HM.out.mono ?_
  rintro e w1 ⟨rfl, hw1⟩
  obtain rfl := hw1.symm
  clear HM
  go_upto_region 8 with fail
  have c0 : W.cell? ⟨ub, 0, none⟩ = some (.map (some mb)) := HI.out.u.blk.cell 0
  obtain ⟨es, ck, hup, hmb9⟩ := run_update_words (P := Try.prog) (t := 27) HI.out.drew.u.map Try.underlying27 Try.underlying30 ad da
  have HI2 : Hid (IR w (putO W.drew mb (.map es ck)) ub mb (.slice la 0 lc) (.slice ga gn gc) (.slice la 0 lc) (.slice ga gn gc) w.heap.size (w.heap.size + 1) #[.bool true, .int .u32 ad, .int .u32 da] #[.bool false, .int .u32 0] ⟨(fun x => if x = ad then da else m x), [], log, false, left⟩) := HI.out.drew.upd _ _ hmb9
  clear HI hmb9
  refine wp_region_qtail 8 mixed (by kernel_rfl) ?_
  simp only [List.take_succ_cons, List.take_zero, List.drop_succ_cons, List.drop_zero]
  repeat (go_big_quiet_step (fail))
  refine wpQuiet_nil ?_
  clear q0 q1 q2 c0
  go_upto_region 9 with fail
  clear hup
  obtain ⟨w2, hw2⟩ : ∃ w2, putO W.drew mb (.map es ck) = w2 := ⟨_, rfl⟩
  rw [hw2] at HI2 ⊢
  clear hw2
  have HI3 : Hid (IR w w2.drew ub mb (.slice la 0 lc) (.slice ga gn gc) (.slice la 0 lc) (.slice ga gn gc) w.heap.size (w.heap.size + 1) #[.bool true, .int .u32 ad, .int .u32 da] #[.bool false, .int .u32 0] ⟨(fun x => if x = ad then da else m x), [], log, false, left⟩) := HI2.out.drew
  clear HI2
  obtain ⟨i0, hinf, hz0, hz1, hz2⟩ := info_parts info68
  have hSg : Sl w2.drew (.slice ga gn gc) 68 5 gn (log.flatMap trow) := by
    have h9 : Sl w2.drew (.slice ga gn gc) 68 5 log.length (log.flatMap trow) := HI3.out.u.log
    rw [HGN.out] at h9; exact h9
  have HSW : Hid (Sl (w2.drew.alloc (.cells [.bool true, .int .u32 ad, .int .u32 da, .bool false, .int .u32 (0)].toArray 68)) (.slice ga gn gc) 68 5 gn (log.flatMap trow)) := hSg.same fun k hk => Below.heap_alloc _ _ k (hSg.lt k hk)
  have HIA : Hid (IR w (w2.drew.alloc (.cells [.bool true, .int .u32 ad, .int .u32 da, .bool false, .int .u32 (0)].toArray 68)) ub mb (.slice la 0 lc) (.slice ga gn gc) (.slice la 0 lc) (.slice ga gn gc) w.heap.size (w.heap.size + 1) #[.bool true, .int .u32 ad, .int .u32 da] #[.bool false, .int .u32 (0)] ⟨(fun x => if x = ad then da else m x), [], log, false, left⟩) := HI3.out.below ((Below.refl _ _).alloc (Nat.le_refl _) _)
  clear hSg
  refine wp_region_float [0, 1, 2, 3, 4, 5, 6, 7] [8, 9, 10, 11, 12] [0, 1, 2, 3, 7] mixed (fun ω => ω.cell? ⟨ub, 2, none⟩ = some (.slice ga gn gc) ∧ Blk ω w.heap.size #[.bool true, .int .u32 ad, .int .u32 da] 64 ∧ Blk ω (w.heap.size + 1) #[.bool false, .int .u32 (0)] 66) (by kernel_rfl) rfl (by kernel_rfl) ⟨HI3.out.u.blk.cell 2, HI3.out.hq, HI3.out.hr⟩ ?_
  iterate 4 refine wpFl_op _ _ _ _ rfl rfl (fun ω hj => by go_simp; rfl) ?_
  refine wpFl_op _ _ _ _ rfl rfl (fun ω hj => by have q := (hj rfl).1; go_simp; rfl) ?_
  refine wpFl_op _ _ _ _ rfl rfl (fun ω hj => by
    have q0 : ω.cell? ⟨w.heap.size, 0, none⟩ = some (.bool true) := (hj rfl).2.1.cell 0
    have q1 : ω.cell? ⟨w.heap.size, 1, none⟩ = some (.int .u32 ad) := (hj rfl).2.1.cell 1
    have q2 : ω.cell? ⟨w.heap.size, 2, none⟩ = some (.int .u32 da) := (hj rfl).2.1.cell 2
    go_simp; rfl) ?_
  refine wpFl_op _ _ _ _ rfl rfl (fun ω hj => by
    have q0 : ω.cell? ⟨w.heap.size + 1, 0, none⟩ = some (.bool false) := (hj rfl).2.2.cell 0
    have q1 : ω.cell? ⟨w.heap.size + 1, 1, none⟩ = some (.int .u32 (0)) := (hj rfl).2.2.cell 1
    go_simp; rfl) ?_
  refine wpFl_op _ _ _ _ rfl rfl (fun ω hj => by go_simp; rfl) ?_
  refine wpFl_nil _ _ ?_
  simp only [Act.put, List.setIfInBounds_toArray]
  refine wpCh_one _ _ _ _ rfl ?_
  simp only [List.getElem_toArray, List.getElem_cons_succ, List.getElem_cons_zero]
  go_wp2_with fail
  refine ⟨⟨HIA.out.u.blk.cell 2, HIA.out.hq, HIA.out.hr⟩, ?_⟩
  clear HI3
  refine wpCh_rest _ _ _ _ [_, _, _, _] _ _ rfl (by kernel_rfl) ?_
  simp only [List.getElem_toArray, List.getElem_cons_succ, List.getElem_cons_zero]
  go_wp2_with (at_builtin; (refine wpList_append_sl _ rfl (.tmp 39) (.tmp 43) 39 rfl 68 i0 (.agg #[.bool false, .int .u32 0, .int .u32 0, .bool false, .int .u32 0]) 5 20 Try.underlying39 hinf hz0 hz1 hz2 rfl (by decide) _ _ _ rfl HSW.out ⟨w2.drew.heap.size, 0, none⟩ 1 1 [.bool true, .int .u32 ad, .int .u32 da, .bool false, .int .u32 (0)] rfl rfl ?d1 ?d2 ?d3 ?d4 ?_))
  case d1 => exact cells_new _ _ _ _ rfl
  case d2 => intro v hv; simp at hv; rcases hv with rfl | rfl | rfl | rfl | rfl <;> rfl
  case d3 => unfold maxLen; omega
  case d4 => omega
  intro v' w3 hsl hgr hnew
  obtain ⟨ba, bo, bc, rfl, hbc, hbl⟩ := hsl.form (by omega)
  have hub3 : Blk w3 ub (ubV mb (.slice la 0 lc) (.slice ga gn gc) false left) 79 := by
    have := HIA.out.u.blk
    exact (hgr.block ub this.lt (fun e => HIA.out.u.gu ub e.symm rfl)).trans this
  have hI4 := HIA.out.grow hgr (gv' := .slice (some ⟨ba, bo, none⟩) (gn + 1) bc) ⟨true, ad, da, false, 0⟩ (by show Sl w3 _ 68 5 (log.length + 1) (log.flatMap trow ++ _); rw [HGN.out]; exact hsl) (fun k hk => or_le (hnew k hk) (by first | (simp; done) | (simp; exact Nat.le_refl _)))
  obtain ⟨u3, hu3, hl3⟩ := hub3.out
  rw [hu3, put_put] at hI4
  have HI4 : Hid (IR w (put u3 ub (ubV mb (.slice la 0 lc) (.slice (some ⟨ba, bo, none⟩) (gn + 1) bc) false left) 79) ub mb (.slice la 0 lc) (.slice ga gn gc) (.slice la 0 lc) (.slice (some ⟨ba, bo, none⟩) (gn + 1) bc) w.heap.size (w.heap.size + 1) #[.bool true, .int .u32 ad, .int .u32 da] #[.bool false, .int .u32 (0)] ⟨(fun x => if x = ad then da else m x), [], log ++ [⟨true, ad, da, false, 0⟩], false, left⟩) := hI4
  clear hI4 HIA HSW hub3 hsl hgr hnew hbc hbl hglen hinf hz0 hz1 hz2
  subst hu3
  have HFIN : Hid (IR w (put u3 ub (ubV mb (.slice la 0 lc) (.slice (some ⟨ba, bo, none⟩) (gn + 1) bc) true 1) 79) ub mb (.slice la 0 lc) (.slice ga gn gc) (.slice la 0 lc) (.slice (some ⟨ba, bo, none⟩) (gn + 1) bc) w.heap.size (w.heap.size + 1) #[.bool true, .int .u32 ad, .int .u32 da] #[.bool false, .int .u32 (0)] ⟨(fun x => if x = ad then da else m x), [], log ++ [⟨true, ad, da, false, 0⟩], true, 1⟩) := by
    have := HI4.out.row (U' := ⟨(fun x => if x = ad then da else m x), [], log ++ [⟨true, ad, da, false, 0⟩], true, 1⟩) rfl HI4.out.u.lat HI4.out.u.log HI4.out.lo HI4.out.go
    rw [put_put] at this
    exact this
  clear HI4
  unfold ubV
  go_wp2_with fail
  go_ret
  exact ⟨rfl, _, _, HFIN.out.u, HFIN.out.fr, HFIN.out.lo, HFIN.out.go⟩
set_option linter.unusedVariables false in
set_option maxRecDepth 100000 in
set_option maxHeartbeats 4000000 in
theorem iss_w1 (ub mb : Nat) (lv gv : Value) (m : Int → Int) (l0 : Int) (lat : List Int) (log : List TR) (left : Int) (ad da : Int) (had : W32 ad) (hmp : mapF ad = true) (w : World) (h : UB w ub mb lv gv ⟨m, (l0 :: lat), log, false, left⟩) (hok : BusD.Ok ⟨m, (l0 :: lat), log, false, left⟩) :
    Calls Try.prog 66 #[.pointer (some ⟨ub, 0, none⟩), .agg #[.bool true, .int .u32 ad, .int .u32 da]] w fun e w' => e = .returned (.bool true) ∧ ∃ lv' gv', UB w' ub mb lv' gv' ⟨(fun x => if x = ad then da else m x), lat, log ++ [⟨true, ad, da, false, 0⟩], true, 1 + l0⟩ ∧ Fr (KI ub mb gv) w w' ∧ (∀ k, lv'.ownBlock = some k → lv.ownBlock = some k) ∧ (∀ k, gv'.ownBlock = some k → gv.ownBlock = some k ∨ w.heap.size ≤ k) := by
  obtain ⟨ga, gc, hgv⟩ := h.log.form'
  obtain ⟨gn, hgn⟩ : ∃ gn, log.length = gn := ⟨_, rfl⟩
  simp only [] at hgv
  rw [hgn] at hgv
  have hglen : gn < 1000000000000 := by rw [← hgn]; exact hok.glen
  obtain ⟨lb, lo, lc, hlv, hlc, hlb⟩ := h.lat.form (by simp)
  simp only [List.length_cons] at hlv
  have hlc9 : (l0 :: lat).length ≤ lc := hlc
  obtain ⟨ln, hln⟩ : ∃ ln, lat.length = ln := ⟨_, rfl⟩
  rw [hln] at hlv
  have hl63 := hok.lat l0 (by simp)
  have hadd : (1 + l0) % 4294967296 = 1 + l0 := by omega
  have hln16 : ln ≤ 15 := by have := hok.llen; simp at this; omega
  have hlnc : ln + 1 ≤ lc := by simp at hlc9; omega
  have hlcm : lc ≤ maxLen := by
    rcases h.lat.2 with ⟨_, h0⟩ | ⟨b', off', cap', cs', e1, _, _, h2, _⟩
    · simp at h0
    · rw [hlv] at e1; injection e1 with _ _ e3; omega
  subst hlv
  clear hlc hlc9 hlb
  subst hgv
  have c3 : w.cell? ⟨ub, 3, none⟩ = some (.bool false) := h.blk.cell 3
  have c3' := ca1 w (.cells #[.bool true, .int .u32 ad, .int .u32 da] 64) _ _ c3
  obtain ⟨W, hW⟩ : ∃ W, (w.alloc (.cells #[.bool true, .int .u32 ad, .int .u32 da] 64)).alloc (.cells #[.bool false, .int .u32 0] 66) = W := ⟨_, rfl⟩
  have HI : Hid (IR w W ub mb (.slice (some ⟨lb, lo, none⟩) (ln + 1) lc) (.slice ga gn gc) (.slice (some ⟨lb, lo, none⟩) (ln + 1) lc) (.slice ga gn gc) w.heap.size (w.heap.size + 1) #[.bool true, .int .u32 ad, .int .u32 da] #[.bool false, .int .u32 0] ⟨m, (l0 :: lat), log, false, left⟩) := by
    rw [← hW]; exact ir_start h _ _
  have q0 : W.cell? ⟨w.heap.size, 0, none⟩ = some (.bool true) := HI.out.hq.cell 0
  have q1 : W.cell? ⟨w.heap.size, 1, none⟩ = some (.int .u32 ad) := HI.out.hq.cell 1
  have q2 : W.cell? ⟨w.heap.size, 2, none⟩ = some (.int .u32 da) := HI.out.hq.cell 2
  have HM := hid_of (mapped_any ad had W)
  rw [hmp] at HM
  have HGN := hid_of hgn
  have HLI : Hid True := trivial
  have HLN := hid_of hln
  clear hln hl63
  clear h hok hgn had hmp
  go_enter Try.func66, Try.ntmps66
  go_upto_region 5 with fail
  clear hW c3 c3'
  refine wp_region_list ?_
  go_wp2_with fail
  refine HM.out.mono ?_
  rintro e w1 ⟨rfl, hw1⟩
  obtain rfl := hw1.symm
  clear HM
  go_upto_region 8 with fail
  have c0 : W.cell? ⟨ub, 0, none⟩ = some (.map (some mb)) := HI.out.u.blk.cell 0
  obtain ⟨es, ck, hup, hmb9⟩ := run_update_words (P := Try.prog) (t := 27) HI.out.drew.u.map Try.underlying27 Try.underlying30 ad da
  have HI2 : Hid (IR w (putO W.drew mb (.map es ck)) ub mb (.slice (some ⟨lb, lo, none⟩) (ln + 1) lc) (.slice ga gn gc) (.slice (some ⟨lb, lo, none⟩) (ln + 1) lc) (.slice ga gn gc) w.heap.size (w.heap.size + 1) #[.bool true, .int .u32 ad, .int .u32 da] #[.bool false, .int .u32 0] ⟨(fun x => if x = ad then da else m x), (l0 :: lat), log, false, left⟩) := HI.out.drew.upd _ _ hmb9
  clear HI hmb9
  refine wp_region_qtail 8 mixed (by kernel_rfl) ?_
  simp only [List.take_succ_cons, List.take_zero, List.drop_succ_cons, List.drop_zero]
  repeat (go_big_quiet_step (fail))
  refine wpQuiet_nil ?_
  clear q0 q1 q2 c0
  go_upto_region 9 with fail
  clear hup
  obtain ⟨w2, hw2⟩ : ∃ w2, putO W.drew mb (.map es ck) = w2 := ⟨_, rfl⟩
  rw [hw2] at HI2 ⊢
  clear hw2
  have HI3 : Hid (IR w w2.drew ub mb (.slice (some ⟨lb, lo, none⟩) (ln + 1) lc) (.slice ga gn gc) (.slice (some ⟨lb, lo, none⟩) (ln + 1) lc) (.slice ga gn gc) w.heap.size (w.heap.size + 1) #[.bool true, .int .u32 ad, .int .u32 da] #[.bool false, .int .u32 0] ⟨(fun x => if x = ad then da else m x), (l0 :: lat), log, false, left⟩) := HI2.out.drew
  clear HI2
  obtain ⟨i0, hinf, hz0, hz1, hz2⟩ := info_parts info68
  have hSg : Sl w2.drew (.slice ga gn gc) 68 5 gn (log.flatMap trow) := by
    have h9 : Sl w2.drew (.slice ga gn gc) 68 5 log.length (log.flatMap trow) := HI3.out.u.log
    rw [HGN.out] at h9; exact h9
  have HSW : Hid (Sl (w2.drew.alloc (.cells [.bool true, .int .u32 ad, .int .u32 da, .bool false, .int .u32 (0)].toArray 68)) (.slice ga gn gc) 68 5 gn (log.flatMap trow)) := hSg.same fun k hk => Below.heap_alloc _ _ k (hSg.lt k hk)
  have HIA : Hid (IR w (w2.drew.alloc (.cells [.bool true, .int .u32 ad, .int .u32 da, .bool false, .int .u32 (0)].toArray 68)) ub mb (.slice (some ⟨lb, lo, none⟩) (ln + 1) lc) (.slice ga gn gc) (.slice (some ⟨lb, lo, none⟩) (ln + 1) lc) (.slice ga gn gc) w.heap.size (w.heap.size + 1) #[.bool true, .int .u32 ad, .int .u32 da] #[.bool false, .int .u32 (0)] ⟨(fun x => if x = ad then da else m x), (l0 :: lat), log, false, left⟩) := HI3.out.below ((Below.refl _ _).alloc (Nat.le_refl _) _)
  clear hSg
  refine wp_region_float [0, 1, 2, 3, 4, 5, 6, 7] [8, 9, 10, 11, 12] [0, 1, 2, 3, 7] mixed (fun ω => ω.cell? ⟨ub, 2, none⟩ = some (.slice ga gn gc) ∧ Blk ω w.heap.size #[.bool true, .int .u32 ad, .int .u32 da] 64 ∧ Blk ω (w.heap.size + 1) #[.bool false, .int .u32 (0)] 66) (by kernel_rfl) rfl (by kernel_rfl) ⟨HI3.out.u.blk.cell 2, HI3.out.hq, HI3.out.hr⟩ ?_
  iterate 4 refine wpFl_op _ _ _ _ rfl rfl (fun ω hj => by go_simp; rfl) ?_
  refine wpFl_op _ _ _ _ rfl rfl (fun ω hj => by have q := (hj rfl).1; go_simp; rfl) ?_
  refine wpFl_op _ _ _ _ rfl rfl (fun ω hj => by
    have q0 : ω.cell? ⟨w.heap.size, 0, none⟩ = some (.bool true) := (hj rfl).2.1.cell 0
    have q1 : ω.cell? ⟨w.heap.size, 1, none⟩ = some (.int .u32 ad) := (hj rfl).2.1.cell 1
    have q2 : ω.cell? ⟨w.heap.size, 2, none⟩ = some (.int .u32 da) := (hj rfl).2.1.cell 2
    go_simp; rfl) ?_
  refine wpFl_op _ _ _ _ rfl rfl (fun ω hj => by
    have q0 : ω.cell? ⟨w.heap.size + 1, 0, none⟩ = some (.bool false) := (hj rfl).2.2.cell 0
    have q1 : ω.cell? ⟨w.heap.size + 1, 1, none⟩ = some (.int .u32 (0)) := (hj rfl).2.2.cell 1
    go_simp; rfl) ?_
  refine wpFl_op _ _ _ _ rfl rfl (fun ω hj => by go_simp; rfl) ?_
  refine wpFl_nil _ _ ?_
  simp only [Act.put, List.setIfInBounds_toArray]
  refine wpCh_one _ _ _ _ rfl ?_
  simp only [List.getElem_toArray, List.getElem_cons_succ, List.getElem_cons_zero]
  go_wp2_with fail
  refine ⟨⟨HIA.out.u.blk.cell 2, HIA.out.hq, HIA.out.hr⟩, ?_⟩
  clear HI3
  refine wpCh_rest _ _ _ _ [_, _, _, _] _ _ rfl (by kernel_rfl) ?_
  simp only [List.getElem_toArray, List.getElem_cons_succ, List.getElem_cons_zero]
  go_wp2_with (at_builtin; (refine wpList_append_sl _ rfl (.tmp 39) (.tmp 43) 39 rfl 68 i0 (.agg #[.bool false, .int .u32 0, .int .u32 0, .bool false, .int .u32 0]) 5 20 Try.underlying39 hinf hz0 hz1 hz2 rfl (by decide) _ _ _ rfl HSW.out ⟨w2.drew.heap.size, 0, none⟩ 1 1 [.bool true, .int .u32 ad, .int .u32 da, .bool false, .int .u32 (0)] rfl rfl ?d1 ?d2 ?d3 ?d4 ?_))
  case d1 => exact cells_new _ _ _ _ rfl
  case d2 => intro v hv; simp at hv; rcases hv with rfl | rfl | rfl | rfl | rfl <;> rfl
  case d3 => unfold maxLen; omega
  case d4 => omega
  intro v' w3 hsl hgr hnew
  obtain ⟨ba, bo, bc, rfl, hbc, hbl⟩ := hsl.form (by omega)
  have hub3 : Blk w3 ub (ubV mb (.slice (some ⟨lb, lo, none⟩) (ln + 1) lc) (.slice ga gn gc) false left) 79 := by
    have := HIA.out.u.blk
    exact (hgr.block ub this.lt (fun e => HIA.out.u.gu ub e.symm rfl)).trans this
  have hI4 := HIA.out.grow hgr (gv' := .slice (some ⟨ba, bo, none⟩) (gn + 1) bc) ⟨true, ad, da, false, 0⟩ (by show Sl w3 _ 68 5 (log.length + 1) (log.flatMap trow ++ _); rw [HGN.out]; exact hsl) (fun k hk => or_le (hnew k hk) (by first | (simp; done) | (simp; exact Nat.le_refl _)))
  obtain ⟨u3, hu3, hl3⟩ := hub3.out
  rw [hu3, put_put] at hI4
  have HI4 : Hid (IR w (put u3 ub (ubV mb (.slice (some ⟨lb, lo, none⟩) (ln + 1) lc) (.slice (some ⟨ba, bo, none⟩) (gn + 1) bc) false left) 79) ub mb (.slice (some ⟨lb, lo, none⟩) (ln + 1) lc) (.slice ga gn gc) (.slice (some ⟨lb, lo, none⟩) (ln + 1) lc) (.slice (some ⟨ba, bo, none⟩) (gn + 1) bc) w.heap.size (w.heap.size + 1) #[.bool true, .int .u32 ad, .int .u32 da] #[.bool false, .int .u32 (0)] ⟨(fun x => if x = ad then da else m x), (l0 :: lat), log ++ [⟨true, ad, da, false, 0⟩], false, left⟩) := hI4
  clear hI4 HIA HSW hub3 hsl hgr hnew hbc hbl hglen hinf hz0 hz1 hz2
  subst hu3
  have hlu : lb ≠ ub := HI4.out.u.lu lb rfl
  have hl0 : u3.cell? ⟨lb, lo, none⟩ = some (.int .u32 l0) := by
    have h9 := HI4.out.u.lat.cell rfl 0 (by simp [prow])
    rw [put_cell_ne _ _ _ _ _ _ _ hlu] at h9
    simpa [prow] using h9
  have htl := HI4.out.u.lat
  simp only [List.length_cons] at htl
  rw [HLN.out] at htl
  have htl := htl.tail rfl
  have e1 : (prow (l0 :: lat)).drop 1 = prow lat := rfl
  rw [e1] at htl
  have HTL := hid_of htl
  clear htl e1
  unfold ubV at HI4
  have h1n : (1 : Int) ≤ ((ln : Nat) : Int) + 1 := by omega
  have h2n : (((ln : Nat) : Int) + 1) ≤ (lc : Nat) := by omega
  by_cases hc1 : lc = 1
  · subst hc1
    have hln0 : ln = 0 := by omega
    subst hln0
    have HFIN : Hid (IR w (put u3 ub (ubV mb (.slice (some ⟨lb, lo, none⟩) 0 0) (.slice (some ⟨ba, bo, none⟩) (gn + 1) bc) true (1 + l0)) 79) ub mb (.slice (some ⟨lb, lo, none⟩) (0 + 1) 1) (.slice ga gn gc) (.slice (some ⟨lb, lo, none⟩) 0 0) (.slice (some ⟨ba, bo, none⟩) (gn + 1) bc) w.heap.size (w.heap.size + 1) #[.bool true, .int .u32 ad, .int .u32 da] #[.bool false, .int .u32 (0)] ⟨(fun x => if x = ad then da else m x), lat, log ++ [⟨true, ad, da, false, 0⟩], true, 1 + l0⟩) := by
      have h9 := HTL.out
      rw [if_pos rfl] at h9
      have := HI4.out.row (U' := ⟨(fun x => if x = ad then da else m x), lat, log ++ [⟨true, ad, da, false, 0⟩], true, 1 + l0⟩) (lv' := .slice (some ⟨lb, lo, none⟩) 0 0) rfl (by show Sl _ _ 30 1 lat.length (prow lat); rw [HLN.out]; exact h9) HI4.out.u.log (fun k hk => HI4.out.lo k hk) HI4.out.go
      rw [put_put] at this
      exact this
    clear HI4 HTL
    unfold ubV
    go_upto_region 12 with fail
    refine wp_region_qtail 11 mixed (by kernel_rfl) ?_
    simp only [List.take_succ_cons, List.take_zero, List.drop_succ_cons, List.drop_zero]
    repeat (go_big_quiet_step (fail))
    refine wpQuiet_nil ?_
    go_wp2_with fail
    go_ret
    have HF := HFIN.out.drew
    exact ⟨rfl, _, _, HF.u, HF.fr, HF.lo, HF.go⟩
  · have hc1' : (lc = 1) = False := by simp [hc1]
    have HFIN : Hid (IR w (put u3 ub (ubV mb (.slice (some ⟨lb, lo + 1, none⟩) ln (lc - 1)) (.slice (some ⟨ba, bo, none⟩) (gn + 1) bc) true (1 + l0)) 79) ub mb (.slice (some ⟨lb, lo, none⟩) (ln + 1) lc) (.slice ga gn gc) (.slice (some ⟨lb, lo + 1, none⟩) ln (lc - 1)) (.slice (some ⟨ba, bo, none⟩) (gn + 1) bc) w.heap.size (w.heap.size + 1) #[.bool true, .int .u32 ad, .int .u32 da] #[.bool false, .int .u32 (0)] ⟨(fun x => if x = ad then da else m x), lat, log ++ [⟨true, ad, da, false, 0⟩], true, 1 + l0⟩) := by
      have h9 := HTL.out
      rw [if_neg hc1] at h9
      have := HI4.out.row (U' := ⟨(fun x => if x = ad then da else m x), lat, log ++ [⟨true, ad, da, false, 0⟩], true, 1 + l0⟩) (lv' := .slice (some ⟨lb, lo + 1, none⟩) ln (lc - 1)) rfl (by show Sl _ _ 30 1 lat.length (prow lat); rw [HLN.out]; exact h9) HI4.out.u.log (fun k hk => HI4.out.lo k hk) HI4.out.go
      rw [put_put] at this
      exact this
    clear HI4 HTL
    unfold ubV
    go_upto_region 12 with fail
    refine wp_region_qtail 11 mixed (by kernel_rfl) ?_
    simp only [List.take_succ_cons, List.take_zero, List.drop_succ_cons, List.drop_zero]
    repeat (go_big_quiet_step (fail))
    refine wpQuiet_nil ?_
    go_wp2_with fail
    go_ret
    have HF := HFIN.out.drew
    exact ⟨rfl, _, _, HF.u, HF.fr, HF.lo, HF.go⟩
set_option linter.unusedVariables false in
set_option maxRecDepth 100000 in
set_option maxHeartbeats 4000000 in
theorem iss_r0 (ub mb : Nat) (lv gv : Value) (m : Int → Int) (log : List TR) (left : Int) (ad da : Int) (had : W32 ad) (hmp : mapF ad = true) (w : World) (h : UB w ub mb lv gv ⟨m, [], log, false, left⟩) (hok : BusD.Ok ⟨m, [], log, false, left⟩) :
    Calls Try.prog 66 #[.pointer (some ⟨ub, 0, none⟩), .agg #[.bool false, .int .u32 ad, .int .u32 da]] w fun e w' => e = .returned (.bool true) ∧ ∃ lv' gv', UB w' ub mb lv' gv' ⟨m, [], log ++ [⟨false, ad, da, false, m ad⟩], true, 1⟩ ∧ Fr (KI ub mb gv) w w' ∧ (∀ k, lv'.ownBlock = some k → lv.ownBlock = some k) ∧ (∀ k, gv'.ownBlock = some k → gv.ownBlock = some k ∨ w.heap.size ≤ k) := by
  obtain ⟨ga, gc, hgv⟩ := h.log.form'
  obtain ⟨gn, hgn⟩ : ∃ gn, log.length = gn := ⟨_, rfl⟩
  simp only [] at hgv
  rw [hgn] at hgv
  have hglen : gn < 1000000000000 := by rw [← hgn]; exact hok.glen
  obtain ⟨la, lc, hlv⟩ := h.lat.form'
  simp only [List.length_nil] at hlv
  subst hlv
  subst hgv
  have c3 : w.cell? ⟨ub, 3, none⟩ = some (.bool false) := h.blk.cell 3
  have c3' := ca1 w (.cells #[.bool false, .int .u32 ad, .int .u32 da] 64) _ _ c3
  obtain ⟨W, hW⟩ : ∃ W, (w.alloc (.cells #[.bool false, .int .u32 ad, .int .u32 da] 64)).alloc (.cells #[.bool false, .int .u32 0] 66) = W := ⟨_, rfl⟩
  have HI : Hid (IR w W ub mb (.slice la 0 lc) (.slice ga gn gc) (.slice la 0 lc) (.slice ga gn gc) w.heap.size (w.heap.size + 1) #[.bool false, .int .u32 ad, .int .u32 da] #[.bool false, .int .u32 0] ⟨m, [], log, false, left⟩) := by
    rw [← hW]; exact ir_start h _ _
  have q0 : W.cell? ⟨w.heap.size, 0, none⟩ = some (.bool false) := HI.out.hq.cell 0
  have q1 : W.cell? ⟨w.heap.size, 1, none⟩ = some (.int .u32 ad) := HI.out.hq.cell 1
  have q2 : W.cell? ⟨w.heap.size, 2, none⟩ = some (.int .u32 da) := HI.out.hq.cell 2
  have HM := hid_of (mapped_any ad had W)
  rw [hmp] at HM
  have HGN := hid_of hgn
  have HLI : Hid True := trivial
  clear h hok hgn had hmp
  go_enter Try.func66, Try.ntmps66
  go_upto_region 5 with fail
  clear hW c3 c3'
  refine wp_region_list ?_
  go_wp2_with fail
  refine HM.out.mono ?_
  rintro e w1 ⟨rfl, hw1⟩
  obtain rfl := hw1.symm
  clear HM
  go_upto_region 4 with fail
  have c0 : W.cell? ⟨ub, 0, none⟩ = some (.map (some mb)) := HI.out.u.blk.cell 0
  have hlk := run_lookup_words (P := Try.prog) (t := 27) HI.out.u.map Try.underlying27 Try.underlying30 zero30 ad
  have hlkd := run_lookup_words (P := Try.prog) (t := 27) HI.out.drew.u.map Try.underlying27 Try.underlying30 zero30 ad
  have hrb := HI.out.hr
  obtain ⟨u, hu, hl⟩ := HI.out.hr.out
  have HI2 : Hid (IR w (put u (w.heap.size + 1) #[.bool false, .int .u32 (m ad)] 66) ub mb (.slice la 0 lc) (.slice ga gn gc) (.slice la 0 lc) (.slice ga gn gc) w.heap.size (w.heap.size + 1) #[.bool false, .int .u32 ad, .int .u32 da] #[.bool false, .int .u32 (m ad)] ⟨m, [], log, false, left⟩) := by
    have := HI.out.resp #[.bool false, .int .u32 (m ad)]
    rw [hu, put_put] at this
    exact this
  have HU := hid_of hu
  clear HI hrb hu
  refine wp_region_float [0, 1, 2, 3, 4, 5, 6, 7] [8] [0, 1, 2, 4, 7] mixed (fun ω => ω = W.drew) (by kernel_rfl) rfl (by kernel_rfl) rfl ?_
  have c0d : W.drew.cell? ⟨ub, 0, none⟩ = some (.map (some mb)) := c0
  have q1d : W.drew.cell? ⟨w.heap.size, 1, none⟩ = some (.int .u32 ad) := q1
  iterate 8 refine wpFl_op _ _ _ _ rfl rfl (fun ω hj => by first | (go_simp; rfl) | (obtain rfl := hj rfl; go_simp; rfl)) ?_
  refine wpFl_nil _ _ ?_
  simp only [Act.put, List.setIfInBounds_toArray]
  refine wpCh_rest _ _ _ _ [_] _ _ rfl (by kernel_rfl) ?_
  simp only [List.getElem_toArray, List.getElem_cons_succ, List.getElem_cons_zero]
  clear c0d q1d
  clear q0 q1 q2 c0 hlk hlkd
  have hu := HU.out
  clear HU
  subst hu
  go_upto_region 9 with fail
  obtain ⟨w2, hw2⟩ : ∃ w2, (put u (w.heap.size + 1) #[.bool false, .int .u32 (m ad)] 66).drew = w2 := ⟨_, rfl⟩
  have HI2 := HI2.out.drew
  rw [hw2] at HI2 ⊢
  clear hw2 hl
  have HI3 : Hid (IR w w2.drew ub mb (.slice la 0 lc) (.slice ga gn gc) (.slice la 0 lc) (.slice ga gn gc) w.heap.size (w.heap.size + 1) #[.bool false, .int .u32 ad, .int .u32 da] #[.bool false, .int .u32 (m ad)] ⟨m, [], log, false, left⟩) := HI2.drew
  clear HI2
  obtain ⟨i0, hinf, hz0, hz1, hz2⟩ := info_parts info68
  have hSg : Sl w2.drew (.slice ga gn gc) 68 5 gn (log.flatMap trow) := by
    have h9 : Sl w2.drew (.slice ga gn gc) 68 5 log.length (log.flatMap trow) := HI3.out.u.log
    rw [HGN.out] at h9; exact h9
  have HSW : Hid (Sl (w2.drew.alloc (.cells [.bool false, .int .u32 ad, .int .u32 da, .bool false, .int .u32 (m ad)].toArray 68)) (.slice ga gn gc) 68 5 gn (log.flatMap trow)) := hSg.same fun k hk => Below.heap_alloc _ _ k (hSg.lt k hk)
  have HIA : Hid (IR w (w2.drew.alloc (.cells [.bool false, .int .u32 ad, .int .u32 da, .bool false, .int .u32 (m ad)].toArray 68)) ub mb (.slice la 0 lc) (.slice ga gn gc) (.slice la 0 lc) (.slice ga gn gc) w.heap.size (w.heap.size + 1) #[.bool false, .int .u32 ad, .int .u32 da] #[.bool false, .int .u32 (m ad)] ⟨m, [], log, false, left⟩) := HI3.out.below ((Below.refl _ _).alloc (Nat.le_refl _) _)
  clear hSg
  refine wp_region_float [0, 1, 2, 3, 4, 5, 6, 7] [8, 9, 10, 11, 12] [0, 1, 2, 3, 7] mixed (fun ω => ω.cell? ⟨ub, 2, none⟩ = some (.slice ga gn gc) ∧ Blk ω w.heap.size #[.bool false, .int .u32 ad, .int .u32 da] 64 ∧ Blk ω (w.heap.size + 1) #[.bool false, .int .u32 (m ad)] 66) (by kernel_rfl) rfl (by kernel_rfl) ⟨HI3.out.u.blk.cell 2, HI3.out.hq, HI3.out.hr⟩ ?_
  iterate 4 refine wpFl_op _ _ _ _ rfl rfl (fun ω hj => by go_simp; rfl) ?_
  refine wpFl_op _ _ _ _ rfl rfl (fun ω hj => by have q := (hj rfl).1; go_simp; rfl) ?_
  refine wpFl_op _ _ _ _ rfl rfl (fun ω hj => by
    have q0 : ω.cell? ⟨w.heap.size, 0, none⟩ = some (.bool false) := (hj rfl).2.1.cell 0
    have q1 : ω.cell? ⟨w.heap.size, 1, none⟩ = some (.int .u32 ad) := (hj rfl).2.1.cell 1
    have q2 : ω.cell? ⟨w.heap.size, 2, none⟩ = some (.int .u32 da) := (hj rfl).2.1.cell 2
    go_simp; rfl) ?_
  refine wpFl_op _ _ _ _ rfl rfl (fun ω hj => by
    have q0 : ω.cell? ⟨w.heap.size + 1, 0, none⟩ = some (.bool false) := (hj rfl).2.2.cell 0
    have q1 : ω.cell? ⟨w.heap.size + 1, 1, none⟩ = some (.int .u32 (m ad)) := (hj rfl).2.2.cell 1
    go_simp; rfl) ?_
  refine wpFl_op _ _ _ _ rfl rfl (fun ω hj => by go_simp; rfl) ?_
  refine wpFl_nil _ _ ?_
  simp only [Act.put, List.setIfInBounds_toArray]
  refine wpCh_one _ _ _ _ rfl ?_
  simp only [List.getElem_toArray, List.getElem_cons_succ, List.getElem_cons_zero]
  go_wp2_with fail
  refine ⟨⟨HIA.out.u.blk.cell 2, HIA.out.hq, HIA.out.hr⟩, ?_⟩
  clear HI3
  refine wpCh_rest _ _ _ _ [_, _, _, _] _ _ rfl (by kernel_rfl) ?_
  simp only [List.getElem_toArray, List.getElem_cons_succ, List.getElem_cons_zero]
  go_wp2_with (at_builtin; (refine wpList_append_sl _ rfl (.tmp 39) (.tmp 43) 39 rfl 68 i0 (.agg #[.bool false, .int .u32 0, .int .u32 0, .bool false, .int .u32 0]) 5 20 Try.underlying39 hinf hz0 hz1 hz2 rfl (by decide) _ _ _ rfl HSW.out ⟨w2.drew.heap.size, 0, none⟩ 1 1 [.bool false, .int .u32 ad, .int .u32 da, .bool false, .int .u32 (m ad)] rfl rfl ?d1 ?d2 ?d3 ?d4 ?_))
  case d1 => exact cells_new _ _ _ _ rfl
  case d2 => intro v hv; simp at hv; rcases hv with rfl | rfl | rfl | rfl | rfl <;> rfl
  case d3 => unfold maxLen; omega
  case d4 => omega
  intro v' w3 hsl hgr hnew
  obtain ⟨ba, bo, bc, rfl, hbc, hbl⟩ := hsl.form (by omega)
  have hub3 : Blk w3 ub (ubV mb (.slice la 0 lc) (.slice ga gn gc) false left) 79 := by
    have := HIA.out.u.blk
    exact (hgr.block ub this.lt (fun e => HIA.out.u.gu ub e.symm rfl)).trans this
  have hI4 := HIA.out.grow hgr (gv' := .slice (some ⟨ba, bo, none⟩) (gn + 1) bc) ⟨false, ad, da, false, m ad⟩ (by show Sl w3 _ 68 5 (log.length + 1) (log.flatMap trow ++ _); rw [HGN.out]; exact hsl) (fun k hk => or_le (hnew k hk) (by first | (simp; done) | (simp; exact Nat.le_refl _)))
  obtain ⟨u3, hu3, hl3⟩ := hub3.out
  rw [hu3, put_put] at hI4
  have HI4 : Hid (IR w (put u3 ub (ubV mb (.slice la 0 lc) (.slice (some ⟨ba, bo, none⟩) (gn + 1) bc) false left) 79) ub mb (.slice la 0 lc) (.slice ga gn gc) (.slice la 0 lc) (.slice (some ⟨ba, bo, none⟩) (gn + 1) bc) w.heap.size (w.heap.size + 1) #[.bool false, .int .u32 ad, .int .u32 da] #[.bool false, .int .u32 (m ad)] ⟨m, [], log ++ [⟨false, ad, da, false, m ad⟩], false, left⟩) := hI4
  clear hI4 HIA HSW hub3 hsl hgr hnew hbc hbl hglen hinf hz0 hz1 hz2
  subst hu3
  have HFIN : Hid (IR w (put u3 ub (ubV mb (.slice la 0 lc) (.slice (some ⟨ba, bo, none⟩) (gn + 1) bc) true 1) 79) ub mb (.slice la 0 lc) (.slice ga gn gc) (.slice la 0 lc) (.slice (some ⟨ba, bo, none⟩) (gn + 1) bc) w.heap.size (w.heap.size + 1) #[.bool false, .int .u32 ad, .int .u32 da] #[.bool false, .int .u32 (m ad)] ⟨m, [], log ++ [⟨false, ad, da, false, m ad⟩], true, 1⟩) := by
    have := HI4.out.row (U' := ⟨m, [], log ++ [⟨false, ad, da, false, m ad⟩], true, 1⟩) rfl HI4.out.u.lat HI4.out.u.log HI4.out.lo HI4.out.go
    rw [put_put] at this
    exact this
  clear HI4
  unfold ubV
  go_wp2_with fail
  go_ret
  exact ⟨rfl, _, _, HFIN.out.u, HFIN.out.fr, HFIN.out.lo, HFIN.out.go⟩
set_option linter.unusedVariables false in
set_option maxRecDepth 100000 in
set_option maxHeartbeats 4000000 in
theorem iss_r1 (ub mb : Nat) (lv gv : Value) (m : Int → Int) (l0 : Int) (lat : List Int) (log : List TR) (left : Int) (ad da : Int) (had : W32 ad) (hmp : mapF ad = true) (w : World) (h : UB w ub mb lv gv ⟨m, (l0 :: lat), log, false, left⟩) (hok : BusD.Ok ⟨m, (l0 :: lat), log, false, left⟩) :
    Calls Try.prog 66 #[.pointer (some ⟨ub, 0, none⟩), .agg #[.bool false, .int .u32 ad, .int .u32 da]] w fun e w' => e = .returned (.bool true) ∧ ∃ lv' gv', UB w' ub mb lv' gv' ⟨m, lat, log ++ [⟨false, ad, da, false, m ad⟩], true, 1 + l0⟩ ∧ Fr (KI ub mb gv) w w' ∧ (∀ k, lv'.ownBlock = some k → lv.ownBlock = some k) ∧ (∀ k, gv'.ownBlock = some k → gv.ownBlock = some k ∨ w.heap.size ≤ k) := by
  obtain ⟨ga, gc, hgv⟩ := h.log.form'
  obtain ⟨gn, hgn⟩ : ∃ gn, log.length = gn := ⟨_, rfl⟩
  simp only [] at hgv
  rw [hgn] at hgv
  have hglen : gn < 1000000000000 := by rw [← hgn]; exact hok.glen
  obtain ⟨lb, lo, lc, hlv, hlc, hlb⟩ := h.lat.form (by simp)
  simp only [List.length_cons] at hlv
  have hlc9 : (l0 :: lat).length ≤ lc := hlc
  obtain ⟨ln, hln⟩ : ∃ ln, lat.length = ln := ⟨_, rfl⟩
  rw [hln] at hlv
  have hl63 := hok.lat l0 (by simp)
  have hadd : (1 + l0) % 4294967296 = 1 + l0 := by omega
  have hln16 : ln ≤ 15 := by have := hok.llen; simp at this; omega
  have hlnc : ln + 1 ≤ lc := by simp at hlc9; omega
  have hlcm : lc ≤ maxLen := by
    rcases h.lat.2 with ⟨_, h0⟩ | ⟨b', off', cap', cs', e1, _, _, h2, _⟩
    · simp at h0
    · rw [hlv] at e1; injection e1 with _ _ e3; omega
  subst hlv
  clear hlc hlc9 hlb
  subst hgv
  have c3 : w.cell? ⟨ub, 3, none⟩ = some (.bool false) := h.blk.cell 3
  have c3' := ca1 w (.cells #[.bool false, .int .u32 ad, .int .u32 da] 64) _ _ c3
  obtain ⟨W, hW⟩ : ∃ W, (w.alloc (.cells #[.bool false, .int .u32 ad, .int .u32 da] 64)).alloc (.cells #[.bool false, .int .u32 0] 66) = W := ⟨_, rfl⟩
  have HI : Hid (IR w W ub mb (.slice (some ⟨lb, lo, none⟩) (ln + 1) lc) (.slice ga gn gc) (.slice (some ⟨lb, lo, none⟩) (ln + 1) lc) (.slice ga gn gc) w.heap.size (w.heap.size + 1) #[.bool false, .int .u32 ad, .int .u32 da] #[.bool false, .int .u32 0] ⟨m, (l0 :: lat), log, false, left⟩) := by
    rw [← hW]; exact ir_start h _ _
  have q0 : W.cell? ⟨w.heap.size, 0, none⟩ = some (.bool false) := HI.out.hq.cell 0
  have q1 : W.cell? ⟨w.heap.size, 1, none⟩ = some (.int .u32 ad) := HI.out.hq.cell 1
  have q2 : W.cell? ⟨w.heap.size, 2, none⟩ = some (.int .u32 da) := HI.out.hq.cell 2
  have HM := hid_of (mapped_any ad had W)
  rw [hmp] at HM
  have HGN := hid_of hgn
  have HLI : Hid True := trivial
  have HLN := hid_of hln
  clear hln hl63
  clear h hok hgn had hmp
  go_enter Try.func66, Try.ntmps66
  go_upto_region 5 with fail
  clear hW c3 c3'
  refine wp_region_list ?_
  go_wp2_with fail
  refine HM.out.mono ?_
  rintro e w1 ⟨rfl, hw1⟩
  obtain rfl := hw1.symm
  clear HM
  go_upto_region 4 with fail
  have c0 : W.cell? ⟨ub, 0, none⟩ = some (.map (some mb)) := HI.out.u.blk.cell 0
  have hlk := run_lookup_words (P := Try.prog) (t := 27) HI.out.u.map Try.underlying27 Try.underlying30 zero30 ad
  have hlkd := run_lookup_words (P := Try.prog) (t := 27) HI.out.drew.u.map Try.underlying27 Try.underlying30 zero30 ad
  have hrb := HI.out.hr
  obtain ⟨u, hu, hl⟩ := HI.out.hr.out
  have HI2 : Hid (IR w (put u (w.heap.size + 1) #[.bool false, .int .u32 (m ad)] 66) ub mb (.slice (some ⟨lb, lo, none⟩) (ln + 1) lc) (.slice ga gn gc) (.slice (some ⟨lb, lo, none⟩) (ln + 1) lc) (.slice ga gn gc) w.heap.size (w.heap.size + 1) #[.bool false, .int .u32 ad, .int .u32 da] #[.bool false, .int .u32 (m ad)] ⟨m, (l0 :: lat), log, false, left⟩) := by
    have := HI.out.resp #[.bool false, .int .u32 (m ad)]
    rw [hu, put_put] at this
    exact this
  have HU := hid_of hu
  clear HI hrb hu
  refine wp_region_float [0, 1, 2, 3, 4, 5, 6, 7] [8] [0, 1, 2, 4, 7] mixed (fun ω => ω = W.drew) (by kernel_rfl) rfl (by kernel_rfl) rfl ?_
  have c0d : W.drew.cell? ⟨ub, 0, none⟩ = some (.map (some mb)) := c0
  have q1d : W.drew.cell? ⟨w.heap.size, 1, none⟩ = some (.int .u32 ad) := q1
  iterate 8 refine wpFl_op _ _ _ _ rfl rfl (fun ω hj => by first | (go_simp; rfl) | (obtain rfl := hj rfl; go_simp; rfl)) ?_
  refine wpFl_nil _ _ ?_
  simp only [Act.put, List.setIfInBounds_toArray]
  refine wpCh_rest _ _ _ _ [_] _ _ rfl (by kernel_rfl) ?_
  simp only [List.getElem_toArray, List.getElem_cons_succ, List.getElem_cons_zero]
  clear c0d q1d
  clear q0 q1 q2 c0 hlk hlkd
  have hu := HU.out
  clear HU
  subst hu
  go_upto_region 9 with fail
  obtain ⟨w2, hw2⟩ : ∃ w2, (put u (w.heap.size + 1) #[.bool false, .int .u32 (m ad)] 66).drew = w2 := ⟨_, rfl⟩
  have HI2 := HI2.out.drew
  rw [hw2] at HI2 ⊢
  clear hw2 hl
  have HI3 : Hid (IR w w2.drew ub mb (.slice (some ⟨lb, lo, none⟩) (ln + 1) lc) (.slice ga gn gc) (.slice (some ⟨lb, lo, none⟩) (ln + 1) lc) (.slice ga gn gc) w.heap.size (w.heap.size + 1) #[.bool false, .int .u32 ad, .int .u32 da] #[.bool false, .int .u32 (m ad)] ⟨m, (l0 :: lat), log, false, left⟩) := HI2.drew
  clear HI2
  obtain ⟨i0, hinf, hz0, hz1, hz2⟩ := info_parts info68
  have hSg : Sl w2.drew (.slice ga gn gc) 68 5 gn (log.flatMap trow) := by
    have h9 : Sl w2.drew (.slice ga gn gc) 68 5 log.length (log.flatMap trow) := HI3.out.u.log
    rw [HGN.out] at h9; exact h9
  have HSW : Hid (Sl (w2.drew.alloc (.cells [.bool false, .int .u32 ad, .int .u32 da, .bool false, .int .u32 (m ad)].toArray 68)) (.slice ga gn gc) 68 5 gn (log.flatMap trow)) := hSg.same fun k hk => Below.heap_alloc _ _ k (hSg.lt k hk)
  have HIA : Hid (IR w (w2.drew.alloc (.cells [.bool false, .int .u32 ad, .int .u32 da, .bool false, .int .u32 (m ad)].toArray 68)) ub mb (.slice (some ⟨lb, lo, none⟩) (ln + 1) lc) (.slice ga gn gc) (.slice (some ⟨lb, lo, none⟩) (ln + 1) lc) (.slice ga gn gc) w.heap.size (w.heap.size + 1) #[.bool false, .int .u32 ad, .int .u32 da] #[.bool false, .int .u32 (m ad)] ⟨m, (l0 :: lat), log, false, left⟩) := HI3.out.below ((Below.refl _ _).alloc (Nat.le_refl _) _)
  clear hSg
  refine wp_region_float [0, 1, 2, 3, 4, 5, 6, 7] [8, 9, 10, 11, 12] [0, 1, 2, 3, 7] mixed (fun ω => ω.cell? ⟨ub, 2, none⟩ = some (.slice ga gn gc) ∧ Blk ω w.heap.size #[.bool false, .int .u32 ad, .int .u32 da] 64 ∧ Blk ω (w.heap.size + 1) #[.bool false, .int .u32 (m ad)] 66) (by kernel_rfl) rfl (by kernel_rfl) ⟨HI3.out.u.blk.cell 2, HI3.out.hq, HI3.out.hr⟩ ?_
  iterate 4 refine wpFl_op _ _ _ _ rfl rfl (fun ω hj => by go_simp; rfl) ?_
  refine wpFl_op _ _ _ _ rfl rfl (fun ω hj => by have q := (hj rfl).1; go_simp; rfl) ?_
  refine wpFl_op _ _ _ _ rfl rfl (fun ω hj => by
    have q0 : ω.cell? ⟨w.heap.size, 0, none⟩ = some (.bool false) := (hj rfl).2.1.cell 0
    have q1 : ω.cell? ⟨w.heap.size, 1, none⟩ = some (.int .u32 ad) := (hj rfl).2.1.cell 1
    have q2 : ω.cell? ⟨w.heap.size, 2, none⟩ = some (.int .u32 da) := (hj rfl).2.1.cell 2
    go_simp; rfl) ?_
  refine wpFl_op _ _ _ _ rfl rfl (fun ω hj => by
    have q0 : ω.cell? ⟨w.heap.size + 1, 0, none⟩ = some (.bool false) := (hj rfl).2.2.cell 0
    have q1 : ω.cell? ⟨w.heap.size + 1, 1, none⟩ = some (.int .u32 (m ad)) := (hj rfl).2.2.cell 1
    go_simp; rfl) ?_
  refine wpFl_op _ _ _ _ rfl rfl (fun ω hj => by go_simp; rfl) ?_
  refine wpFl_nil _ _ ?_
  simp only [Act.put, List.setIfInBounds_toArray]
  refine wpCh_one _ _ _ _ rfl ?_
  simp only [List.getElem_toArray, List.getElem_cons_succ, List.getElem_cons_zero]
  go_wp2_with fail
  refine ⟨⟨HIA.out.u.blk.cell 2, HIA.out.hq, HIA.out.hr⟩, ?_⟩
  clear HI3
  refine wpCh_rest _ _ _ _ [_, _, _, _] _ _ rfl (by kernel_rfl) ?_
  simp only [List.getElem_toArray, List.getElem_cons_succ, List.getElem_cons_zero]
  go_wp2_with (at_builtin; (refine wpList_append_sl _ rfl (.tmp 39) (.tmp 43) 39 rfl 68 i0 (.agg #[.bool false, .int .u32 0, .int .u32 0, .bool false, .int .u32 0]) 5 20 Try.underlying39 hinf hz0 hz1 hz2 rfl (by decide) _ _ _ rfl HSW.out ⟨w2.drew.heap.size, 0, none⟩ 1 1 [.bool false, .int .u32 ad, .int .u32 da, .bool false, .int .u32 (m ad)] rfl rfl ?d1 ?d2 ?d3 ?d4 ?_))
  case d1 => exact cells_new _ _ _ _ rfl
  case d2 => intro v hv; simp at hv; rcases hv with rfl | rfl | rfl | rfl | rfl <;> rfl
  case d3 => unfold maxLen; omega
  case d4 => omega
  intro v' w3 hsl hgr hnew
  obtain ⟨ba, bo, bc, rfl, hbc, hbl⟩ := hsl.form (by omega)
  have hub3 : Blk w3 ub (ubV mb (.slice (some ⟨lb, lo, none⟩) (ln + 1) lc) (.slice ga gn gc) false left) 79 := by
    have := HIA.out.u.blk
    exact (hgr.block ub this.lt (fun e => HIA.out.u.gu ub e.symm rfl)).trans this
  have hI4 := HIA.out.grow hgr (gv' := .slice (some ⟨ba, bo, none⟩) (gn + 1) bc) ⟨false, ad, da, false, m ad⟩ (by show Sl w3 _ 68 5 (log.length + 1) (log.flatMap trow ++ _); rw [HGN.out]; exact hsl) (fun k hk => or_le (hnew k hk) (by first | (simp; done) | (simp; exact Nat.le_refl _)))
  obtain ⟨u3, hu3, hl3⟩ := hub3.out
  rw [hu3, put_put] at hI4
  have HI4 : Hid (IR w (put u3 ub (ubV mb (.slice (some ⟨lb, lo, none⟩) (ln + 1) lc) (.slice (some ⟨ba, bo, none⟩) (gn + 1) bc) false left) 79) ub mb (.slice (some ⟨lb, lo, none⟩) (ln + 1) lc) (.slice ga gn gc) (.slice (some ⟨lb, lo, none⟩) (ln + 1) lc) (.slice (some ⟨ba, bo, none⟩) (gn + 1) bc) w.heap.size (w.heap.size + 1) #[.bool false, .int .u32 ad, .int .u32 da] #[.bool false, .int .u32 (m ad)] ⟨m, (l0 :: lat), log ++ [⟨false, ad, da, false, m ad⟩], false, left⟩) := hI4
  clear hI4 HIA HSW hub3 hsl hgr hnew hbc hbl hglen hinf hz0 hz1 hz2
  subst hu3
  have hlu : lb ≠ ub := HI4.out.u.lu lb rfl
  have hl0 : u3.cell? ⟨lb, lo, none⟩ = some (.int .u32 l0) := by
    have h9 := HI4.out.u.lat.cell rfl 0 (by simp [prow])
    rw [put_cell_ne _ _ _ _ _ _ _ hlu] at h9
    simpa [prow] using h9
  have htl := HI4.out.u.lat
  simp only [List.length_cons] at htl
  rw [HLN.out] at htl
  have htl := htl.tail rfl
  have e1 : (prow (l0 :: lat)).drop 1 = prow lat := rfl
  rw [e1] at htl
  have HTL := hid_of htl
  clear htl e1
  unfold ubV at HI4
  have h1n : (1 : Int) ≤ ((ln : Nat) : Int) + 1 := by omega
  have h2n : (((ln : Nat) : Int) + 1) ≤ (lc : Nat) := by omega
  by_cases hc1 : lc = 1
  · subst hc1
    have hln0 : ln = 0 := by omega
    subst hln0
    have HFIN : Hid (IR w (put u3 ub (ubV mb (.slice (some ⟨lb, lo, none⟩) 0 0) (.slice (some ⟨ba, bo, none⟩) (gn + 1) bc) true (1 + l0)) 79) ub mb (.slice (some ⟨lb, lo, none⟩) (0 + 1) 1) (.slice ga gn gc) (.slice (some ⟨lb, lo, none⟩) 0 0) (.slice (some ⟨ba, bo, none⟩) (gn + 1) bc) w.heap.size (w.heap.size + 1) #[.bool false, .int .u32 ad, .int .u32 da] #[.bool false, .int .u32 (m ad)] ⟨m, lat, log ++ [⟨false, ad, da, false, m ad⟩], true, 1 + l0⟩) := by
      have h9 := HTL.out
      rw [if_pos rfl] at h9
      have := HI4.out.row (U' := ⟨m, lat, log ++ [⟨false, ad, da, false, m ad⟩], true, 1 + l0⟩) (lv' := .slice (some ⟨lb, lo, none⟩) 0 0) rfl (by show Sl _ _ 30 1 lat.length (prow lat); rw [HLN.out]; exact h9) HI4.out.u.log (fun k hk => HI4.out.lo k hk) HI4.out.go
      rw [put_put] at this
      exact this
    clear HI4 HTL
    unfold ubV
    go_upto_region 12 with fail
    refine wp_region_qtail 11 mixed (by kernel_rfl) ?_
    simp only [List.take_succ_cons, List.take_zero, List.drop_succ_cons, List.drop_zero]
    repeat (go_big_quiet_step (fail))
    refine wpQuiet_nil ?_
    go_wp2_with fail
    go_ret
    have HF := HFIN.out.drew
    exact ⟨rfl, _, _, HF.u, HF.fr, HF.lo, HF.go⟩
  · have hc1' : (lc = 1) = False := by simp [hc1]
    have HFIN : Hid (IR w (put u3 ub (ubV mb (.slice (some ⟨lb, lo + 1, none⟩) ln (lc - 1)) (.slice (some ⟨ba, bo, none⟩) (gn + 1) bc) true (1 + l0)) 79) ub mb (.slice (some ⟨lb, lo, none⟩) (ln + 1) lc) (.slice ga gn gc) (.slice (some ⟨lb, lo + 1, none⟩) ln (lc - 1)) (.slice (some ⟨ba, bo, none⟩) (gn + 1) bc) w.heap.size (w.heap.size + 1) #[.bool false, .int .u32 ad, .int .u32 da] #[.bool false, .int .u32 (m ad)] ⟨m, lat, log ++ [⟨false, ad, da, false, m ad⟩], true, 1 + l0⟩) := by
      have h9 := HTL.out
      rw [if_neg hc1] at h9
      have := HI4.out.row (U' := ⟨m, lat, log ++ [⟨false, ad, da, false, m ad⟩], true, 1 + l0⟩) (lv' := .slice (some ⟨lb, lo + 1, none⟩) ln (lc - 1)) rfl (by show Sl _ _ 30 1 lat.length (prow lat); rw [HLN.out]; exact h9) HI4.out.u.log (fun k hk => HI4.out.lo k hk) HI4.out.go
      rw [put_put] at this
      exact this
    clear HI4 HTL
    unfold ubV
    go_upto_region 12 with fail
    refine wp_region_qtail 11 mixed (by kernel_rfl) ?_
    simp only [List.take_succ_cons, List.take_zero, List.drop_succ_cons, List.drop_zero]
    repeat (go_big_quiet_step (fail))
    refine wpQuiet_nil ?_
    go_wp2_with fail
    go_ret
    have HF := HFIN.out.drew
    exact ⟨rfl, _, _, HF.u, HF.fr, HF.lo, HF.go⟩
end Go.Proofs.Qxb6500749a
