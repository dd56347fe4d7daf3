import Derived.Test.Qxb6500750aDoorFfT
namespace Go.Proofs.Qxb6500750aDoor
open Go.RowKit
attribute [local go_sem] put_size put_cell_same put_cell_ne put_frozen_same put_frozen_ne put_setCell_same put_setCell_ne put_drew
attribute [local go_sem] drewN_setCell drewN_alloc drewN_put upd_same upd_upd
theorem offX_rt (x : XS) (m : Nat) (r : Req) (j : Nat) : ((offX x m r).mp j).rt = (x.mp j).rt := by
  unfold offX; rw [setM_get]; split
  · rename_i e; subst e; rfl
  · rfl
theorem step_rt (σ : SS) (o : OpD) (h3 : o.k ≠ 3) (h4 : o.k ≠ 4) (h5 : o.k ≠ 5) : (fun j => ((stepS σ o).x.mp j).rt) = fun j => (σ.x.mp j).rt := by
  funext j
  have hi : ∀ r, ((issX σ.x o.a r).mp j).rt = (σ.x.mp j).rt := fun r => by
    unfold issX; split
    · rfl
    · split
      · exact offX_rt _ _ _ _
      · rfl
  unfold stepS
  by_cases h0 : o.k = 0
  · rw [if_pos h0]; exact hi _
  rw [if_neg h0]
  by_cases h1 : o.k = 1
  · rw [if_pos h1]; exact hi _
  rw [if_neg h1]
  by_cases h2 : o.k = 2
  · rw [if_pos h2]; split <;> rfl
  rw [if_neg h2, if_neg h3, if_neg h4, if_neg h5]
theorem FF.other {σ : SS} {acc : Nat → List Req} {exp : Nat → List Ret} {mem : Int → Int} (hF : FF σ acc exp mem) {o : OpD} (h3 : o.k ≠ 3) (hop : o.k ≠ 4 ∧ o.k ≠ 5 ∧ (o.k = 2 → o.b = 0 ∧ o.c < 64)) (hna : ¬ ((stepO σ o).is = 0 ∧ (o.k = 0 ∨ o.k = 1))) : FF (stepS σ o) acc exp mem := by
  have hi : (o.k = 0 ∨ o.k = 1) → ∀ r, issX σ.x o.a r = σ.x := fun hk r => by
    have e : stepO σ o = ⟨decide (3 ≤ o.a), issS σ.x o.a, issQ σ.x o.a, rep0⟩ := by unfold stepO; rw [if_pos hk]
    rw [e] at hna
    have hn : ¬ issS σ.x o.a = 0 := fun h => hna ⟨h, hk⟩
    unfold issS at hn
    unfold issX
    by_cases h : 3 ≤ o.a
    · rw [if_pos h]
    · rw [if_neg h] at hn ⊢
      rw [if_neg hn]
  unfold stepS
  by_cases h0 : o.k = 0
  · rw [if_pos h0, hi (.inl h0)]; exact hF
  rw [if_neg h0]
  by_cases h1 : o.k = 1
  · rw [if_pos h1, hi (.inr h1)]; exact hF
  rw [if_neg h1]
  by_cases h2 : o.k = 2
  · rw [if_pos h2]
    split
    · obtain ⟨e1, e2⟩ := hop.2.2 h2
      rw [e1]; exact hF.planned _ _ e2
    · exact hF
  rw [if_neg h2, if_neg h3, if_neg hop.1, if_neg hop.2.1]
  exact hF
set_option maxRecDepth 100000 in
set_option maxHeartbeats 4000000 in
theorem play_other (own : Nat → Nat) (w : World) (L : FB) (av ev : Nat → Value) (σ : SS) (acc : Nat → List Req) (exp : Nat → List Ret) (mem : Int → Int) (o : OpD) (N : Int) (A : Nat) (h : FI own w L av ev σ (fun m => (σ.x.mp m).rt) acc exp mem) (hi : XInv N A σ) (hN : 0 ≤ N ∧ N < 3000000) (hA : A + 14 < 1000000000) (ho : OpOK o) (hF : FF σ acc exp mem) (hk3 : ¬ o.k = 3) (hop : o.k ≠ 4 ∧ o.k ≠ 5 ∧ (o.k = 2 → o.b = 0 ∧ o.c < 64)) :
    Calls Tryd.prog 28 #[.agg (opC o), .pointer (some ⟨L.rb, 0, none⟩), .pointer (some ⟨L.ab, 0, none⟩), .pointer (some ⟨L.eb, 0, none⟩), .pointer (some ⟨L.mb, 0, none⟩), .pointer (some ⟨L.tb, 0, none⟩)] w fun e w' => e = .returned (.bool true) ∧ ∃ own' av' ev' acc' exp' mem', FI own' w' L av' ev' (stepS σ o) (fun m => ((stepS σ o).x.mp m).rt) acc' exp' mem' ∧ FF (stepS σ o) acc' exp' mem' ∧ Ext own own' SF w w' := by
  have HI := hid_of hi
  have HK3 := hid_of hk3
  clear hk3
  obtain ⟨OB, hOB⟩ : ∃ OB, encOb (stepO σ o) = OB := ⟨_, rfl⟩
  have HOB : Hid (OB.size = 30 ∧ OB.all (·.oneCell') = true) := by rw [← hOB]; exact obs_okF _
  have hcr := h.rb.cell 0
  have hlr := h.rb.lt
  have hst : StepOK σ o := hi.stepOK ho hA (by omega)
  have hx0 : Ext own (mark own w.heap.size 50) (fun _ => False) w (w.alloc (.cells #[.int .u8 o.k, .int .u32 o.a, .int .u32 o.b, .int .u32 o.c] 31)) := Ext.alloc own _ w _ 50
  have h0 := h.ext hx0 (fun _ _ h => h)
  have HSTEP := hid_of (step_any _ L.rg L.xb L.pbs σ o hst _ h0.rr h0.glb)
  have H0 := hid_of h0
  have HX0 := hid_of hx0
  rw [hOB] at HSTEP
  have HOBE := hid_of hOB
  clear h hst h0 hx0 hOB
  unfold opC at *
  go_enter Tryd.func28, Tryd.ntmps28
  go_wp2_with fail
  refine HSTEP.out.mono ?_
  rintro e w1 ⟨rfl, own2, hrr, hx1⟩
  have h1 := H0.out.moved hx1 (fun k h3 h4 h5 => by omega) hrr
  have hb1 : Blk w1 w.heap.size #[.int .u8 o.k, .int .u32 o.a, .int .u32 o.b, .int .u32 o.c] 31 := (hx1.block _ (by simp) (by rw [mark_ge (Nat.le_refl _)]; omega)).trans (Blk.new w _ 31)
  have hxx : Ext own own2 (fun k => k ≤ 6 ∨ k = 49) w w1 := (HX0.out.mono (fun _ h => h.elim)).trans hx1
  have H1 := hid_of h1
  have HXX := hid_of hxx
  have HB1 := hid_of hb1
  clear HSTEP H0 HX0 hrr hx1 h1 hxx hb1
  go_upto_region 2 with ((with_reducible show wpList _ _ _ ({ dst := none, op := Op.store 43 (Operand.tmp 8) (Operand.tmp 18), type := _, pos := _, after := _, guard := _ } :: _) _ _); refine wpList_store_row (by rfl) 43 (.tmp 8) (.tmp 18) (by rfl) w1.heap.size OB (by rfl) (by rfl) 43 _ (Blk.new _ _ _) (by rw [Tryd.size43, HOB.out.1]) (by rw [HOB.out.1]; rfl) HOB.out.2 ?_; rw [World.setRow_alloc_new])
  have hbe : Below w1.heap.size w1 (w1.alloc (.cells OB 43)) := (Below.refl _ _).alloc (Nat.le_refl _) _
  have h2 := H1.out.below hbe
  have hxw : Ext own own2 (fun k => k ≤ 6 ∨ k = 49) w (w1.alloc (.cells OB 43)) := HXX.out.shut (hbe.mono HXX.out.size)
  have hbo : Blk (w1.alloc (.cells OB 43)) w.heap.size #[.int .u8 o.k, .int .u32 o.a, .int .u32 o.b, .int .u32 o.c] 31 := HB1.out.alloc _
  have hbq : Blk (w1.alloc (.cells OB 43)) w1.heap.size OB 43 := Blk.new _ _ _
  have hq1 : w.heap.size < w1.heap.size := HB1.out.lt
  clear HB1 H1 HXX hbe
  generalize w1.heap.size = qb at *
  generalize w1.alloc (.cells OB 43) = W at *
  have H2 := hid_of h2
  have HXW := hid_of hxw
  have HBO := hid_of hbo
  have HBQ := hid_of hbq
  have ck : W.cell? ⟨w.heap.size, 0, none⟩ = some (.int .u8 o.k) := hbo.cell 0
  have cis : W.cell? ⟨qb, 1, none⟩ = some (.int .u8 (stepO σ o).is) := by
    rw [hbq.cell, ← HOBE.out]; exact og_1 _ _ _ _
  have crf : W.cell? ⟨qb, 0, none⟩ = some (.bool (stepO σ o).rf) := by
    rw [hbq.cell, ← HOBE.out]; exact og_0 _ _ _ _
  clear h2 hxw hbo hbq hcr hlr hi
  have hk3 := HK3.out
  have HRT := hid_of (step_rt σ o hk3 hop.1 hop.2.1)
  have hk3' : (o.k == 3) = false := by simpa using hk3
  have hk3n : (o.k != 3) = true := by simpa using hk3
  by_cases hacc : (stepO σ o).is = 0 ∧ (o.k = 0 ∨ o.k = 1)
  · obtain ⟨his, hk01⟩ := hacc
    obtain ⟨m, hm3, hoa, hoff, hrf⟩ : ∃ m : Nat, m < 3 ∧ o.a = (m : Nat) ∧ offS σ.x m = 0 ∧ (stepO σ o).rf = false := by
      have ha := ho.a
      have e : stepO σ o = ⟨decide (3 ≤ o.a), issS σ.x o.a, issQ σ.x o.a, rep0⟩ := by unfold stepO; rw [if_pos hk01]
      rw [e] at his ⊢
      have his : issS σ.x o.a = 0 := his
      unfold issS at his
      by_cases h3 : 3 ≤ o.a
      · rw [if_pos h3] at his; cases his
      · rw [if_neg h3] at his
        exact ⟨o.a.toNat, by omega, by omega, his, by simp; omega⟩
    rw [his] at cis
    rw [hrf] at crf
    obtain ⟨ad, cap, hav⟩ := (H2.out.sa m hm3).form'
    have hS1 := H2.out.sa m hm3
    have cA : W.cell? ⟨L.ab, m, none⟩ = some (av m) := by rw [H2.out.ab.cell, row_get _ _ _ hm3]
    have hnlt : (acc m).length < 3000000 := by
      have := hF.iss m hm3
      have := HI.out.cnt m hm3
      omega
    obtain ⟨n, hn⟩ : ∃ n, (acc m).length = n := ⟨_, rfl⟩
    rw [hn] at hS1 hnlt hav
    rw [hav] at cA hS1
    have ca : W.cell? ⟨w.heap.size, 1, none⟩ = some (.int .u32 (m : Nat)) := by rw [HBO.out.cell, ← hoa]; rfl
    have cb : W.cell? ⟨w.heap.size, 2, none⟩ = some (.int .u32 o.b) := HBO.out.cell 2
    have cc : W.cell? ⟨w.heap.size, 3, none⟩ = some (.int .u32 o.c) := HBO.out.cell 3
    have l1 : L.ab < W.heap.size := H2.out.ab.lt
    have l2 : w.heap.size < W.heap.size := HBO.out.lt
    have nb4 : L.ab ≠ w.heap.size := H2.out.ab.ne_of_T HBO.out (by decide)
    obtain ⟨i0, hinf, hz0, hz1, hz2⟩ := info_parts Tryd.info91
    have HS1 := hid_of hS1
    have HAV := hid_of hav
    have HN := hid_of hn
    have HFF := hid_of hF
    clear hS1 his hrf hk3 hav hn hF
    have hmi : ((m : Nat) : Int) < 3 := by omega
    have hbk : (o.k = 0 ∧ (o.k == 1) = false) ∨ (o.k = 1 ∧ (o.k == 1) = true) := by rcases hk01 with e | e <;> simp [e]
    rcases hbk with ⟨e, _⟩ | ⟨e, _⟩
    · have HPOST : Hid (FF (stepS σ o) (upd acc m (acc m ++ [⟨false, o.b, o.c⟩])) exp mem) := by
        have e1 : stepS σ o = { σ with x := offX σ.x m ⟨false, o.b, 0⟩ } := by
          have hix : ∀ r, issX σ.x o.a r = offX σ.x m r := fun r => by
            unfold issX
            rw [hoa, Int.toNat_natCast, if_neg (show ¬ 3 ≤ ((m : Nat) : Int) by omega), if_pos hoff]
          unfold stepS
          simp only [hix]
          simp [e]
        rw [e1]
        exact HFF.out.off HI.out hm3 hoff _ _ ⟨rfl, rfl, fun h => by first | rfl | cases h⟩
      rw [e] at ck
      go_upto_region 3 with fail
      refine wp_region_float [0, 1, 2, 3, 4, 5, 6, 7, 8, 9, 10, 11, 12, 13] [14, 15, 16, 17] [0, 2, 4, 6, 8, 9, 11, 13] mixed (fun ω => ω.cell? ⟨L.ab, m, none⟩ = some (.slice ad n cap) ∧ ω.cell? ⟨w.heap.size, 0, none⟩ = some (.int .u8 0) ∧ ω.cell? ⟨w.heap.size, 1, none⟩ = some (.int .u32 (m : Nat)) ∧ ω.cell? ⟨w.heap.size, 2, none⟩ = some (.int .u32 o.b) ∧ ω.cell? ⟨w.heap.size, 3, none⟩ = some (.int .u32 o.c)) (by kernel_rfl) rfl (by kernel_rfl) ⟨cA, ck, ca, cb, cc⟩ ?_
      iterate 14 refine wpFl_op _ _ _ _ rfl rfl (fun ω hj => by first | (obtain ⟨j1, j2, j3, j4, j5⟩ := hj rfl; go_simp; rfl) | (go_simp; rfl) | (go_simp; rw [if_pos hmi])) ?_
      refine wpFl_nil _ _ ?_
      simp only [Act.put, List.setIfInBounds_toArray]
      refine wpCh_one _ _ _ _ rfl ?_
      simp only [List.getElem_toArray, List.getElem_cons_succ, List.getElem_cons_zero]
      go_wp2_with fail
      refine ⟨⟨?_, ?_, ?_, ?_, ?_⟩, ?_⟩
      · simp [*, go_sem, World.cell?_alloc_lt]
      · simp [*, go_sem, World.cell?_alloc_lt]
      · simp [*, go_sem, World.cell?_alloc_lt]
      · simp [*, go_sem, World.cell?_alloc_lt]
      · simp [*, go_sem, World.cell?_alloc_lt]
      refine wpCh_one _ _ _ _ rfl ?_
      simp only [List.getElem_toArray, List.getElem_cons_succ, List.getElem_cons_zero]
      go_wp2_with (at_builtin; refine wpList_append_sl _ rfl (.tmp 42) (.tmp 51) 72 rfl 91 i0 (.agg #[.bool false, .int .u32 0, .int .u32 0]) 3 12 Tryd.underlying72 hinf hz0 hz1 hz2 rfl (by decide) _ _ _ rfl (HS1.out.same ?d0) ⟨W.heap.size, 0, none⟩ 1 1 [.bool false, .int .u32 o.b, .int .u32 o.c] rfl rfl ?d1 ?d2 ?d3 ?d4 ?_)
      case d0 =>
        intro k hk
        show (W.alloc _).heap[k]? = _
        exact Below.heap_alloc W _ k (HS1.out.lt k hk)
      case d1 => exact cells_new _ _ _ _ rfl
      case d2 => intro u hu; simp at hu; rcases hu with rfl | rfl | rfl <;> rfl
      case d3 => unfold maxLen; omega
      case d4 => omega
      intro v' w3 hsl hgr hnew
      obtain ⟨ad', cap', rfl⟩ := hsl.form'
      have hblk : ∀ k, k < W.heap.size → (Value.slice ad n cap).ownBlock ≠ some k → w3.heap[k]? = W.heap[k]? := by
        intro k hk hne'
        rw [hgr.block k (by show k < (W.alloc _).heap.size; simp; omega) (Ne.symm hne')]
        show (W.alloc _).heap[k]? = _
        exact Below.heap_alloc W _ k hk
      have hsA : ∀ k, (Value.slice ad n cap).ownBlock = some k → k ≠ L.ab := H2.out.ab.sl_ne (by decide) HS1.out
      have hs4 : ∀ k, (Value.slice ad n cap).ownBlock = some k → k ≠ w.heap.size := HBO.out.sl_ne (by decide) HS1.out
      have hA2 : Blk w3 L.ab (row 3 av) 73 := (hblk _ l1 (fun e => hsA _ e rfl)).trans H2.out.ab
      have hB2 : Blk w3 w.heap.size #[.int .u8 o.k, .int .u32 o.a, .int .u32 o.b, .int .u32 o.c] 31 := (hblk _ l2 (fun e => hs4 _ e rfl)).trans HBO.out
      have hck2 : w3.cell? ⟨w.heap.size, 0, none⟩ = some (.int .u8 o.k) := hB2.cell 0
      have HFIN : Hid (FI (mark own2 W.heap.size (11 + m)) (put w3 L.ab (row 3 (upd av m (.slice ad' (n + 1) cap'))) 73) L (upd av m (.slice ad' (n + 1) cap')) ev (stepS σ o) (fun m => (σ.x.mp m).rt) (upd acc m (acc m ++ [⟨false, o.b, o.c⟩])) exp mem ∧ Ext own2 (mark own2 W.heap.size (11 + m)) SF W (put w3 L.ab (row 3 (upd av m (.slice ad' (n + 1) cap'))) 73)) := by
        refine H2.out.taken hm3 ⟨false, o.b, o.c⟩ ho.b ?_ hgr.os hgr.tape hgr.output ?_ (by rw [HAV.out]; exact hblk) ?_
        · rw [HN.out]; exact hsl
        · have h9 : (W.alloc (.cells #[.bool false, .int .u32 o.b, .int .u32 o.c] 91)).heap.size ≤ w3.heap.size := hgr.size
          simp at h9; omega
        · intro k hk
          rw [HAV.out]
          rcases hnew k hk with h5 | h5
          · exact .inl h5
          · exact .inr (by omega)
      rw [e] at hck2
      have hrow : w3.cell? ⟨L.ab, m, none⟩ = some (.slice ad n cap) := by rw [hA2.cell, row_get _ _ _ hm3, HAV.out]
      have hJ3 : Hid (w3.cell? ⟨L.ab, m, none⟩ = some (.slice ad n cap) ∧ w3.cell? ⟨w.heap.size, 0, none⟩ = some (.int .u8 0) ∧ w3.cell? ⟨w.heap.size, 1, none⟩ = some (.int .u32 (m : Nat)) ∧ w3.cell? ⟨w.heap.size, 2, none⟩ = some (.int .u32 o.b) ∧ w3.cell? ⟨w.heap.size, 3, none⟩ = some (.int .u32 o.c)) :=
        ⟨hrow, hck2, by rw [hB2.cell, ← hoa]; rfl, hB2.cell 2, hB2.cell 3⟩
      obtain ⟨w4, hw4, hl4⟩ := hA2.out
      subst hw4
      have hck4 := hck2
      rw [put_cell_ne _ _ _ _ _ _ _ (Ne.symm nb4)] at hck4
      have hset := row3_upd av m (.slice ad' (n + 1) cap')
      have hget : (row 3 av)[m]? = some (.slice ad n cap) := by rw [row_get _ _ _ hm3, HAV.out]
      have nb4' := Ne.symm nb4
      rw [put_put] at HFIN
      clear hblk hsA hs4 hA2 hB2 hsl hgr hnew hrow hck2 cA ca cb cc cis crf ck l1 l2
      go_wp2_with fail
      refine ⟨hJ3.out, ?_⟩
      refine wpCh_rest _ _ _ _ [_, _] _ _ rfl (by kernel_rfl) ?_
      simp only [List.getElem_toArray, List.getElem_cons_succ, List.getElem_cons_zero]
      go_wp2_with fail
      go_ret
      exact ⟨rfl, _, _, ev, _, exp, mem, by rw [HRT.out]; exact HFIN.out.1, HPOST.out, (HXW.out.mono (fun k hk => hk.elim .inl (fun h => .inr (.inr h)))).trans HFIN.out.2⟩
    · have HPOST : Hid (FF (stepS σ o) (upd acc m (acc m ++ [⟨true, o.b, o.c⟩])) exp mem) := by
        have e1 : stepS σ o = { σ with x := offX σ.x m ⟨true, o.b, o.c⟩ } := by
          have hix : ∀ r, issX σ.x o.a r = offX σ.x m r := fun r => by
            unfold issX
            rw [hoa, Int.toNat_natCast, if_neg (show ¬ 3 ≤ ((m : Nat) : Int) by omega), if_pos hoff]
          unfold stepS
          simp only [hix]
          simp [e]
        rw [e1]
        exact HFF.out.off HI.out hm3 hoff _ _ ⟨rfl, rfl, fun h => by first | rfl | cases h⟩
      rw [e] at ck
      go_upto_region 3 with fail
      refine wp_region_float [0, 1, 2, 3, 4, 5, 6, 7, 8, 9, 10, 11, 12, 13] [14, 15, 16, 17] [0, 2, 4, 6, 8, 9, 11, 13] mixed (fun ω => ω.cell? ⟨L.ab, m, none⟩ = some (.slice ad n cap) ∧ ω.cell? ⟨w.heap.size, 0, none⟩ = some (.int .u8 1) ∧ ω.cell? ⟨w.heap.size, 1, none⟩ = some (.int .u32 (m : Nat)) ∧ ω.cell? ⟨w.heap.size, 2, none⟩ = some (.int .u32 o.b) ∧ ω.cell? ⟨w.heap.size, 3, none⟩ = some (.int .u32 o.c)) (by kernel_rfl) rfl (by kernel_rfl) ⟨cA, ck, ca, cb, cc⟩ ?_
      iterate 14 refine wpFl_op _ _ _ _ rfl rfl (fun ω hj => by first | (obtain ⟨j1, j2, j3, j4, j5⟩ := hj rfl; go_simp; rfl) | (go_simp; rfl) | (go_simp; rw [if_pos hmi])) ?_
      refine wpFl_nil _ _ ?_
      simp only [Act.put, List.setIfInBounds_toArray]
      refine wpCh_one _ _ _ _ rfl ?_
      simp only [List.getElem_toArray, List.getElem_cons_succ, List.getElem_cons_zero]
      go_wp2_with fail
      refine ⟨⟨?_, ?_, ?_, ?_, ?_⟩, ?_⟩
      · simp [*, go_sem, World.cell?_alloc_lt]
      · simp [*, go_sem, World.cell?_alloc_lt]
      · simp [*, go_sem, World.cell?_alloc_lt]
      · simp [*, go_sem, World.cell?_alloc_lt]
      · simp [*, go_sem, World.cell?_alloc_lt]
      refine wpCh_one _ _ _ _ rfl ?_
      simp only [List.getElem_toArray, List.getElem_cons_succ, List.getElem_cons_zero]
      go_wp2_with (at_builtin; refine wpList_append_sl _ rfl (.tmp 42) (.tmp 51) 72 rfl 91 i0 (.agg #[.bool false, .int .u32 0, .int .u32 0]) 3 12 Tryd.underlying72 hinf hz0 hz1 hz2 rfl (by decide) _ _ _ rfl (HS1.out.same ?d0) ⟨W.heap.size, 0, none⟩ 1 1 [.bool true, .int .u32 o.b, .int .u32 o.c] rfl rfl ?d1 ?d2 ?d3 ?d4 ?_)
      case d0 =>
        intro k hk
        show (W.alloc _).heap[k]? = _
        exact Below.heap_alloc W _ k (HS1.out.lt k hk)
      case d1 => exact cells_new _ _ _ _ rfl
      case d2 => intro u hu; simp at hu; rcases hu with rfl | rfl | rfl <;> rfl
      case d3 => unfold maxLen; omega
      case d4 => omega
      intro v' w3 hsl hgr hnew
      obtain ⟨ad', cap', rfl⟩ := hsl.form'
      have hblk : ∀ k, k < W.heap.size → (Value.slice ad n cap).ownBlock ≠ some k → w3.heap[k]? = W.heap[k]? := by
        intro k hk hne'
        rw [hgr.block k (by show k < (W.alloc _).heap.size; simp; omega) (Ne.symm hne')]
        show (W.alloc _).heap[k]? = _
        exact Below.heap_alloc W _ k hk
      have hsA : ∀ k, (Value.slice ad n cap).ownBlock = some k → k ≠ L.ab := H2.out.ab.sl_ne (by decide) HS1.out
      have hs4 : ∀ k, (Value.slice ad n cap).ownBlock = some k → k ≠ w.heap.size := HBO.out.sl_ne (by decide) HS1.out
      have hA2 : Blk w3 L.ab (row 3 av) 73 := (hblk _ l1 (fun e => hsA _ e rfl)).trans H2.out.ab
      have hB2 : Blk w3 w.heap.size #[.int .u8 o.k, .int .u32 o.a, .int .u32 o.b, .int .u32 o.c] 31 := (hblk _ l2 (fun e => hs4 _ e rfl)).trans HBO.out
      have hck2 : w3.cell? ⟨w.heap.size, 0, none⟩ = some (.int .u8 o.k) := hB2.cell 0
      have HFIN : Hid (FI (mark own2 W.heap.size (11 + m)) (put w3 L.ab (row 3 (upd av m (.slice ad' (n + 1) cap'))) 73) L (upd av m (.slice ad' (n + 1) cap')) ev (stepS σ o) (fun m => (σ.x.mp m).rt) (upd acc m (acc m ++ [⟨true, o.b, o.c⟩])) exp mem ∧ Ext own2 (mark own2 W.heap.size (11 + m)) SF W (put w3 L.ab (row 3 (upd av m (.slice ad' (n + 1) cap'))) 73)) := by
        refine H2.out.taken hm3 ⟨true, o.b, o.c⟩ ho.b ?_ hgr.os hgr.tape hgr.output ?_ (by rw [HAV.out]; exact hblk) ?_
        · rw [HN.out]; exact hsl
        · have h9 : (W.alloc (.cells #[.bool true, .int .u32 o.b, .int .u32 o.c] 91)).heap.size ≤ w3.heap.size := hgr.size
          simp at h9; omega
        · intro k hk
          rw [HAV.out]
          rcases hnew k hk with h5 | h5
          · exact .inl h5
          · exact .inr (by omega)
      rw [e] at hck2
      have hrow : w3.cell? ⟨L.ab, m, none⟩ = some (.slice ad n cap) := by rw [hA2.cell, row_get _ _ _ hm3, HAV.out]
      have hJ3 : Hid (w3.cell? ⟨L.ab, m, none⟩ = some (.slice ad n cap) ∧ w3.cell? ⟨w.heap.size, 0, none⟩ = some (.int .u8 1) ∧ w3.cell? ⟨w.heap.size, 1, none⟩ = some (.int .u32 (m : Nat)) ∧ w3.cell? ⟨w.heap.size, 2, none⟩ = some (.int .u32 o.b) ∧ w3.cell? ⟨w.heap.size, 3, none⟩ = some (.int .u32 o.c)) :=
        ⟨hrow, hck2, by rw [hB2.cell, ← hoa]; rfl, hB2.cell 2, hB2.cell 3⟩
      obtain ⟨w4, hw4, hl4⟩ := hA2.out
      subst hw4
      have hck4 := hck2
      rw [put_cell_ne _ _ _ _ _ _ _ (Ne.symm nb4)] at hck4
      have hset := row3_upd av m (.slice ad' (n + 1) cap')
      have hget : (row 3 av)[m]? = some (.slice ad n cap) := by rw [row_get _ _ _ hm3, HAV.out]
      have nb4' := Ne.symm nb4
      rw [put_put] at HFIN
      clear hblk hsA hs4 hA2 hB2 hsl hgr hnew hrow hck2 cA ca cb cc cis crf ck l1 l2
      go_wp2_with fail
      refine ⟨hJ3.out, ?_⟩
      refine wpCh_rest _ _ _ _ [_, _] _ _ rfl (by kernel_rfl) ?_
      simp only [List.getElem_toArray, List.getElem_cons_succ, List.getElem_cons_zero]
      go_wp2_with fail
      go_ret
      exact ⟨rfl, _, _, ev, _, exp, mem, by rw [HRT.out]; exact HFIN.out.1, HPOST.out, (HXW.out.mono (fun k hk => hk.elim .inl (fun h => .inr (.inr h)))).trans HFIN.out.2⟩
  · have HPOST := hid_of (hF.other hk3 hop hacc)
    have HXF := hid_of (HXW.out.mono (S' := SF) (fun k hk => hk.elim .inl (fun h => .inr (.inr h))))
    clear hF
    by_cases his : (stepO σ o).is = 0
    · have hk0 : (o.k == 0) = false := by simp; exact fun e => hacc ⟨his, .inl e⟩
      have hk1 : (o.k == 1) = false := by simp; exact fun e => hacc ⟨his, .inr e⟩
      rw [his] at cis
      clear hacc his
      go_upto_region 4 with fail
      go_wp2_with fail
      go_ret
      exact ⟨rfl, _, _, _, _, _, _, by rw [HRT.out]; exact H2.out, HPOST.out, HXF.out⟩
    · have his' : ((stepO σ o).is == 0) = false := by simpa using his
      generalize (stepO σ o).is = is at *
      clear hacc his
      go_upto_region 4 with fail
      go_wp2_with fail
      go_ret
      exact ⟨rfl, _, _, _, _, _, _, by rw [HRT.out]; exact H2.out, HPOST.out, HXF.out⟩
theorem play_any (own : Nat → Nat) (w : World) (L : FB) (av ev : Nat → Value) (σ : SS) (acc : Nat → List Req) (exp : Nat → List Ret) (mem : Int → Int) (o : OpD) (N : Int) (A : Nat) (h : FI own w L av ev σ (fun m => (σ.x.mp m).rt) acc exp mem) (hi : XInv N A σ) (hN : 0 ≤ N ∧ N < 3000000) (hA : A + 14 < 1000000000) (ho : OpOK o) (hF : FF σ acc exp mem) (hop : o.k ≠ 4 ∧ o.k ≠ 5 ∧ (o.k = 2 → o.b = 0 ∧ o.c < 64)) :
    Calls Tryd.prog 28 #[.agg (opC o), .pointer (some ⟨L.rb, 0, none⟩), .pointer (some ⟨L.ab, 0, none⟩), .pointer (some ⟨L.eb, 0, none⟩), .pointer (some ⟨L.mb, 0, none⟩), .pointer (some ⟨L.tb, 0, none⟩)] w fun e w' => e = .returned (.bool true) ∧ ∃ own' av' ev' acc' exp' mem', FI own' w' L av' ev' (stepS σ o) (fun m => ((stepS σ o).x.mp m).rt) acc' exp' mem' ∧ FF (stepS σ o) acc' exp' mem' ∧ Ext own own' SF w w' := by
  by_cases hk3 : o.k = 3
  · exact play_tick own w L av ev σ acc exp mem o N A h hi hN hA ho hF hk3
  · exact play_other own w L av ev σ acc exp mem o N A h hi hN hA ho hF hk3 hop
end Go.Proofs.Qxb6500750aDoor
