import Derived.Test.Qxb6500750aDoorMis
namespace Go.Proofs.Qxb6500750aDoor
open Go.RowKit
attribute [local go_sem] put_size put_cell_same put_cell_ne put_frozen_same put_frozen_ne put_setCell_same put_setCell_ne put_drew
attribute [local go_sem] drewN_setCell drewN_alloc drewN_put upd_same upd_upd
attribute [local go_sem] mg_q mg_ac mg_tk mg_ba mg_wm mg_pv mg_av mg_sv mg_lf mg_en mg_rd mg_tu mg_is ms_q ms_ac ms_tk ms_ba ms_wm ms_pv ms_av ms_sv ms_lf ms_en ms_rd ms_tu ms_is
theorem mr_pre {own : Nat → Nat} {mb : Nat} {M : MA} {tb : Nat → Int → Nat} {σ : SS} {w : World} (h : MR own w mb M tb σ) (oc : Array Value) (T0 : TypeId) :
    MR (mark own w.heap.size 50) ((w.alloc (.cells oc T0)).alloc (.cells (encO false 0 0 rep0) 43)) mb M tb σ ∧ Blk ((w.alloc (.cells oc T0)).alloc (.cells (encO false 0 0 rep0) 43)) w.heap.size oc T0 ∧
    Blk ((w.alloc (.cells oc T0)).alloc (.cells (encO false 0 0 rep0) 43)) (w.heap.size + 1) (encO false 0 0 rep0) 43 ∧ mark own w.heap.size 50 (w.heap.size + 1) = 50 ∧
    Ext own (mark own w.heap.size 50) (fun _ => False) w ((w.alloc (.cells oc T0)).alloc (.cells (encO false 0 0 rep0) 43)) := by
  have hx : Ext own (mark own w.heap.size 50) (fun _ => False) w ((w.alloc (.cells oc T0)).alloc (.cells (encO false 0 0 rep0) 43)) := (Ext.alloc own _ w _ 50).trans (Ext.alloc' _ _ _ _)
  refine ⟨h.ext hx (fun _ _ h => h), (Blk.new w oc T0).alloc _, ?_, mark_ge (Nat.le_succ _), hx⟩
  have := Blk.new (w.alloc (.cells oc T0)) (encO false 0 0 rep0) 43
  simp at this
  exact this
theorem mr_post {own own2 : Nat → Nat} {S : Nat → Prop} {mb ob : Nat} {M : MA} {tb : Nat → Int → Nat} {σ : SS} {w w2 : World} (h : MR own2 w2 mb M tb σ) (ho : own2 ob = 50) (hx : Ext own own2 S w w2) (hl : w.heap.size ≤ ob) (O : Array Value) :
    MR own2 (put w2 ob O 43) mb M tb σ ∧ Ext own own2 S w (put w2 ob O 43) :=
  ⟨h.ext (Ext.put (S := (· = 50)) ho) (fun k hk e => by unfold SM at hk; omega), hx.shut (Below.put (Below.refl _ _) hl _ _)⟩
def reqC (r : Req) : Array Value := #[.bool r.w, .int .u32 r.ad, .int .u32 r.da]
set_option maxRecDepth 100000 in
set_option maxHeartbeats 4000000 in
/-- The request is not taken. -/
theorem missue_no {own : Nat → Nat} {mb : Nat} {M : MA} {tb : Nat → Int → Nat} {σ : SS} {w : World} (h : MR own w mb M tb σ) {N : Int} {A : Nat} (hX : XInv N A σ) (a : Int) (ha : 0 ≤ a) (r : Req) (hno : 3 ≤ a ∨ offS σ.x a.toNat ≠ 0) :
    Calls Tryd.prog 37 #[.pointer (some ⟨mb, 0, none⟩), .int .u32 a, .agg #[.bool r.w, .int .u32 r.ad, .int .u32 r.da]] w fun e w' => e = .returned (.agg (encO (decide (3 ≤ a)) (issS σ.x a) (issQ σ.x a) rep0)) ∧ ∃ own', MR own' w' mb M tb { σ with x := issX σ.x a r } ∧ Ext own own' SM w w' := by
  have hq0 : issQ σ.x a = 0 := by
    unfold issQ
    rcases hno with h3 | h3
    · rw [if_pos h3]
    · by_cases h' : 3 ≤ a
      · rw [if_pos h']
      · rw [if_neg h', if_neg h3]
  have hx0 : issX σ.x a r = σ.x := by
    unfold issX
    rcases hno with h3 | h3
    · rw [if_pos h3]
    · by_cases h' : 3 ≤ a
      · rw [if_pos h']
      · rw [if_neg h', if_neg h3]
  rw [hq0, hx0]
  obtain ⟨p1, p2, p3, p4, p5⟩ := mr_pre h (reqC r) 91
  have HF := hid_of (fun O => mr_post p1 p4 (p5.mono (S' := SM) (fun _ h => h.elim)) (Nat.le_succ _) O)
  have P3 := hid_of p3
  have hB := p1.blk
  clear h p3 p5
  unfold reqC at *
  by_cases h3 : 3 ≤ a
  · have hs2 : issS σ.x a = 2 := by unfold issS; rw [if_pos h3]
    have hd : decide (3 ≤ a) = true := decide_eq_true h3
    rw [hs2, hd]
    have HP1 := hid_of p1
    clear hno hs2 hq0 hx0 p1 p2 hB
    rw [encO_zero] at P3 HF
    go_enter Tryd.func37, Tryd.ntmps37
    go_wp2_with ((with_reducible show wpList _ _ _ ({ dst := none, op := Op.store 43 _ _, type := _, pos := _, after := _, guard := _ } :: _) _ _); rw [← encO_lit0]; refine wpList_store_row (by rfl) 43 (.tmp 6) (.tmp 10) (by rfl) (w.heap.size + 1) (encO true 2 0 rep0) (by rfl) (by rfl) 43 (encO false 0 0 rep0) P3.out (by rw [Tryd.size43, encO_size]) (by rw [encO_size, encO_size]) (encO_one _ _ _ _) ?_; rw [setRow_put P3.out])
    exact bodyPost_ret (v := .agg (encO true 2 0 rep0)) (results_cell_row (by rfl) _ _ (w.heap.size + 1) 43 _ (0, 0) _ (by rfl) (Blk.put_same P3.out.lt) Tryd.underlying43 rfl (by rw [Tryd.size43, encO_size])) rfl ⟨rfl, _, (HF.out _).1, (HF.out _).2⟩
  · have hd : decide (3 ≤ a) = false := decide_eq_false h3
    have hoff : offS σ.x a.toNat ≠ 0 := by rcases hno with h' | h'; · exact absurd h' h3
                                           exact h'
    have hs2 : issS σ.x a = offS σ.x a.toNat := by unfold issS; rw [if_neg h3]
    obtain ⟨m, rfl⟩ : ∃ m : Nat, a = (m : Nat) := Int.eq_ofNat_of_zero_le ha
    rw [Int.toNat_natCast] at hoff hs2
    have hm3 : m < 3 := by omega
    have hmi : ((m : Nat) : Int) < 3 := by omega
    have hmi' : ¬ (3 : Int) ≤ ((m : Nat) : Int) := by omega
    rw [hs2, hd]
    have c9 := hB.cell (9 + m)
    rw [mg_ba _ _ hm3, p1.ba m hm3] at c9
    have c6 := hB.cell (6 + m)
    rw [mg_tk _ _ hm3, p1.tk m hm3] at c6
    have c0 := hB.cell m
    rw [mg_q _ _ hm3] at c0
    obtain ⟨L, hL⟩ : ∃ L, ((σ.x.mp m).iss - (σ.x.mp m).rt).toNat = L := ⟨_, rfl⟩
    have hS := p1.queue m hm3
    rw [hL] at hS
    obtain ⟨ad, cap, hv⟩ := hS.form'
    rw [hv] at c0
    have hcn := hX.cnt m hm3
    have hoff' := hoff
    unfold offS at hoff' ⊢
    have HOF := hid_of hoff'
    have HL := hid_of hL
    clear hno hs2 hq0 hx0 p1 p2 hB hS hv hoff hoff' hL
    rw [encO_zero] at P3 HF c9 c6 c0
    cases hi : (σ.x.mp m).iso
    · rw [hi] at c9
      rw [if_neg Bool.noConfusion]
      cases ht : (σ.x.mp m).tk
      · rw [ht] at c6
        have h4 : (((L : Nat) : Int) == 4) = true := by
          have h9 := HOF.out
          rw [if_neg (by rw [hi]; exact Bool.noConfusion)] at h9
          by_cases h4 : (σ.x.mp m).tk = true ∨ 4 ≤ (σ.x.mp m).iss - (σ.x.mp m).rt
          · rcases h4 with h4 | h4
            · rw [ht] at h4; cases h4
            · have := HL.out; simp; omega
          · rw [if_neg h4] at h9; exact absurd rfl h9
        have h4' : (false = true ∨ 4 ≤ (σ.x.mp m).iss - (σ.x.mp m).rt) := by
          right; have := HL.out; have : ((L : Nat) : Int) = 4 := by simpa using h4
          omega
        rw [if_pos h4']
        clear h4' HOF HL
        go_enter Tryd.func37, Tryd.ntmps37
        go_wp2_with ((with_reducible show wpList _ _ _ ({ dst := none, op := Op.store 43 _ _, type := _, pos := _, after := _, guard := _ } :: _) _ _); rw [← encO_lit0]; refine wpList_store_row (by rfl) 43 (.tmp 6) (.tmp 34) (by rfl) (w.heap.size + 1) (encO false 1 0 rep0) (by rfl) (by rfl) 43 (encO false 0 0 rep0) P3.out (by rw [Tryd.size43, encO_size]) (by rw [encO_size, encO_size]) (encO_one _ _ _ _) ?_; rw [setRow_put P3.out])
        exact bodyPost_ret (v := .agg (encO false 1 0 rep0)) (results_cell_row (by rfl) _ _ (w.heap.size + 1) 43 _ (0, 0) _ (by rfl) (Blk.put_same P3.out.lt) Tryd.underlying43 rfl (by rw [Tryd.size43, encO_size])) rfl ⟨rfl, _, (HF.out _).1, (HF.out _).2⟩
      · rw [ht] at c6
        rw [if_pos (.inl rfl)]
        clear HOF HL
        go_enter Tryd.func37, Tryd.ntmps37
        go_wp2_with ((with_reducible show wpList _ _ _ ({ dst := none, op := Op.store 43 _ _, type := _, pos := _, after := _, guard := _ } :: _) _ _); rw [← encO_lit0]; refine wpList_store_row (by rfl) 43 (.tmp 6) (.tmp 34) (by rfl) (w.heap.size + 1) (encO false 1 0 rep0) (by rfl) (by rfl) 43 (encO false 0 0 rep0) P3.out (by rw [Tryd.size43, encO_size]) (by rw [encO_size, encO_size]) (encO_one _ _ _ _) ?_; rw [setRow_put P3.out])
        exact bodyPost_ret (v := .agg (encO false 1 0 rep0)) (results_cell_row (by rfl) _ _ (w.heap.size + 1) 43 _ (0, 0) _ (by rfl) (Blk.put_same P3.out.lt) Tryd.underlying43 rfl (by rw [Tryd.size43, encO_size])) rfl ⟨rfl, _, (HF.out _).1, (HF.out _).2⟩
    · rw [hi] at c9
      rw [if_pos rfl]
      clear HOF HL
      go_enter Tryd.func37, Tryd.ntmps37
      go_wp2_with ((with_reducible show wpList _ _ _ ({ dst := none, op := Op.store 43 _ _, type := _, pos := _, after := _, guard := _ } :: _) _ _); rw [← encO_lit0]; refine wpList_store_row (by rfl) 43 (.tmp 6) (.tmp 17) (by rfl) (w.heap.size + 1) (encO false 2 0 rep0) (by rfl) (by rfl) 43 (encO false 0 0 rep0) P3.out (by rw [Tryd.size43, encO_size]) (by rw [encO_size, encO_size]) (encO_one _ _ _ _) ?_; rw [setRow_put P3.out])
      exact bodyPost_ret (v := .agg (encO false 2 0 rep0)) (results_cell_row (by rfl) _ _ (w.heap.size + 1) 43 _ (0, 0) _ (by rfl) (Blk.put_same P3.out.lt) Tryd.underlying43 rfl (by rw [Tryd.size43, encO_size])) rfl ⟨rfl, _, (HF.out _).1, (HF.out _).2⟩
theorem Tryd.info99 : (Tryd.prog.info? 99).map (fun i => (i.zero, i.size, i.bytes)) = some (some (.pointer none), 1, 8) := by kernel_rfl
theorem encT_new (m : Nat) (q : Int) (r : Req) : encT (newT m q r) = #[.int .i64 (m : Nat), .int .u32 q, .bool r.w, .int .u32 r.ad, .int .u32 r.da, .bool false, .bool false, .bool false, .bool true, .int .u32 q, .int .u8 0, .int .u32 0, .int .u8 0, .int .u8 0] := by kernel_rfl
theorem ca1 (w : World) (o : Obj) (a : Addr) (v : Value) (h : w.cell? a = some v) : (w.alloc o).cell? a = some v := by
  rw [World.cell?_alloc_lt _ _ _ (World.block_lt_of_cell? _ _ h)]; exact h
set_option maxRecDepth 100000 in
set_option maxHeartbeats 4000000 in
/-- The request is taken. -/
theorem missue_yes {own : Nat → Nat} {mb : Nat} {M : MA} {tb : Nat → Int → Nat} {σ : SS} {w : World} (h : MR own w mb M tb σ) {N : Int} {A : Nat} (hX : XInv N A σ) (hN : N < 4294967295) (m : Nat) (hm3 : m < 3) (r : Req) (hoff : offS σ.x m = 0) :
    Calls Tryd.prog 37 #[.pointer (some ⟨mb, 0, none⟩), .int .u32 (m : Nat), .agg #[.bool r.w, .int .u32 r.ad, .int .u32 r.da]] w fun e w' => e = .returned (.agg (encO false 0 (σ.x.mp m).iss rep0)) ∧ ∃ own' M' nb, MR own' w' mb M' (tbN tb m (σ.x.mp m).iss nb) { σ with x := offX σ.x m r } ∧ Ext own own' SM w w' := by
  obtain ⟨p1, p2, p3, p4, p5⟩ := mr_pre h (reqC r) 91
  have hB := p1.blk
  have hcn := hX.cnt m hm3
  have hio : (σ.x.mp m).iso = false := by
    cases hi : (σ.x.mp m).iso
    · rfl
    · unfold offS at hoff; rw [if_pos hi] at hoff; omega
  have htk : (σ.x.mp m).tk = false ∧ (σ.x.mp m).iss - (σ.x.mp m).rt < 4 := by
    unfold offS at hoff
    rw [if_neg (by rw [hio]; exact Bool.noConfusion)] at hoff
    by_cases h4 : (σ.x.mp m).tk = true ∨ 4 ≤ (σ.x.mp m).iss - (σ.x.mp m).rt
    · rw [if_pos h4] at hoff; omega
    · refine ⟨by cases ht : (σ.x.mp m).tk
                 · rfl
                 · exact absurd (.inl ht) h4, by omega⟩
  obtain ⟨htk, h4⟩ := htk
  have hmi : ((m : Nat) : Int) < 3 := by omega
  have hmi' : ¬ (3 : Int) ≤ ((m : Nat) : Int) := by omega
  have hmw : IntKind.i64.wrap ((m : Nat) : Int) = (m : Nat) := by simp [IntKind.wrap, IntKind.bits, IntKind.signed]; omega
  obtain ⟨L, hL⟩ : ∃ L, ((σ.x.mp m).iss - (σ.x.mp m).rt).toNat = L := ⟨_, rfl⟩
  have hS := p1.queue m hm3
  rw [hL] at hS
  obtain ⟨ad, cap, hv⟩ := hS.form'
  have hL4 : (((L : Nat) : Int) == 4) = false := by simp; omega
  have hLc : L < 4 := by omega
  obtain ⟨q, hq⟩ : ∃ q, (σ.x.mp m).iss = q := ⟨_, rfl⟩
  have hq1 : (q + 1) % 4294967296 = q + 1 := by omega
  obtain ⟨W, hW⟩ : ∃ W, ((w.alloc (.cells (reqC r) 91)).alloc (.cells (encO false 0 0 rep0) 43)) = W := ⟨_, rfl⟩
  have hWl : ((w.alloc (.cells #[.bool r.w, .int .u32 r.ad, .int .u32 r.da] 91)).alloc (.cells #[.bool false, .int .u8 0, .int .u32 0, .int .i8 0, .int .i8 0, .int .i8 0, .int .i8 0, .int .i8 0, .int .i8 0, .int .i8 0, .bool false, .int .u32 0, .int .u8 0, .int .u32 0, .int .u8 0, .int .u8 0, .bool false, .int .u32 0, .int .u8 0, .int .u32 0, .int .u8 0, .int .u8 0, .bool false, .int .u32 0, .int .u8 0, .int .u32 0, .int .u8 0, .int .u8 0, .int .u8 0, .int .u8 0] 43)) = W := by rw [← hW, encO_zero]; rfl
  have hsz : W.heap.size = w.heap.size + 2 := by rw [← hW]; simp
  rw [hW] at p1 p2 p3 p5 hB hS
  have c9 := hB.cell (9 + m)
  rw [mg_ba _ _ hm3, p1.ba m hm3, hio] at c9
  have c6 := hB.cell (6 + m)
  rw [mg_tk _ _ hm3, p1.tk m hm3, htk] at c6
  have c3 := hB.cell (3 + m)
  rw [mg_ac _ _ hm3, p1.ac m hm3, hq] at c3
  have c0 := hB.cell m
  rw [mg_q _ _ hm3, hv] at c0
  have r0 : W.cell? ⟨w.heap.size, 0, none⟩ = some (.bool r.w) := p2.cell 0
  have r1 : W.cell? ⟨w.heap.size, 1, none⟩ = some (.int .u32 r.ad) := p2.cell 1
  have r2 : W.cell? ⟨w.heap.size, 2, none⟩ = some (.int .u32 r.da) := p2.cell 2
  rw [hv] at hS
  have HS := hid_of hS
  have HB := hid_of hB
  have P1 := hid_of p1
  have P3 := hid_of p3
  have P5 := hid_of p5
  have HV := hid_of hv
  have HLE := hid_of hL
  have HQ := hid_of hq
  have HX := hid_of hX
  have H4 := hid_of h4
  have HSZ := hid_of hsz
  have hinf := Tryd.info99
  obtain ⟨i0, hi0, hz0, hz1, hz2⟩ : ∃ i0 : TypeInfo, Tryd.prog.info? 99 = some i0 ∧ i0.zero = some (.pointer none) ∧ i0.size = 1 ∧ i0.bytes = 8 := by
    cases hh : Tryd.prog.info? 99 with
    | none => rw [hh] at hinf; cases hinf
    | some i => rw [hh] at hinf; simp at hinf; exact ⟨i, rfl, hinf.1, hinf.2.1, hinf.2.2⟩
  clear h p1 p2 p3 p5 hB hS hv hW hL hq hinf hcn h4 hX hoff hio htk hN
  go_enter Tryd.func37, Tryd.ntmps37
  go_upto_region 1 with fail
  clear hWl
  go_upto_region 8 with fail
  have l1 : mb < W.drew.heap.size := HB.out.lt
  have l2 : w.heap.size < W.drew.heap.size := by have := HSZ.out; show w.heap.size < W.heap.size; omega
  have d0 : W.drew.cell? ⟨mb, m, none⟩ = some (.slice ad L cap) := c0
  have e0 : W.drew.cell? ⟨w.heap.size, 0, none⟩ = some (.bool r.w) := r0
  have e1 : W.drew.cell? ⟨w.heap.size, 1, none⟩ = some (.int .u32 r.ad) := r1
  have e2 : W.drew.cell? ⟨w.heap.size, 2, none⟩ = some (.int .u32 r.da) := r2
  refine wp_region_float [0, 1, 2, 3, 4, 5, 6, 7, 8, 9, 10, 11, 12, 13, 14, 18, 19] [15, 16, 17, 20, 21] [0, 1, 2, 3, 4, 5, 6, 8, 9, 10, 12, 13, 14, 18, 19] mixed (fun ω => ω.cell? ⟨mb, m, none⟩ = some (.slice ad L cap) ∧ ω.cell? ⟨w.heap.size, 0, none⟩ = some (.bool r.w) ∧ ω.cell? ⟨w.heap.size, 1, none⟩ = some (.int .u32 r.ad) ∧ ω.cell? ⟨w.heap.size, 2, none⟩ = some (.int .u32 r.da)) (by kernel_rfl) rfl (by kernel_rfl) ⟨d0, e0, e1, e2⟩ ?_
  iterate 17 refine wpFl_op _ _ _ _ rfl rfl (fun ω hj => by first | (obtain ⟨j1, j2, j3, j4⟩ := hj rfl; go_simp; rfl) | (go_simp; rfl)) ?_
  refine wpFl_nil _ _ ?_
  simp only [Act.put, List.setIfInBounds_toArray]
  refine wpCh_one _ _ _ _ rfl ?_
  simp only [List.getElem_toArray, List.getElem_cons_succ, List.getElem_cons_zero]
  go_wp2_with fail
  rw [← encT_new]
  refine ⟨ca1 _ _ _ _ c0, ?_⟩
  refine wpCh_one _ _ _ _ rfl ?_
  simp only [List.getElem_toArray, List.getElem_cons_succ, List.getElem_cons_zero]
  go_wp2_with fail
  refine ⟨⟨ca1 _ _ _ _ (ca1 _ _ _ _ c0), ca1 _ _ _ _ (ca1 _ _ _ _ r0), ca1 _ _ _ _ (ca1 _ _ _ _ r1), ca1 _ _ _ _ (ca1 _ _ _ _ r2)⟩, ?_⟩
  refine wpCh_rest _ _ _ _ [_, _, _] _ _ rfl (by kernel_rfl) ?_
  simp only [List.getElem_toArray, List.getElem_cons_succ, List.getElem_cons_zero]
  have HSW : Hid (Sl ((W.alloc (.cells (encT (newT m q r)) 148)).alloc (.cells #[.pointer (some ⟨w.heap.size + 2, 0, none⟩)] 99)).drew (.slice ad L cap) 99 1 L (qrow tb m (σ.x.mp m).rt L)) := HS.out.same fun k hk => by
    have hlt := HS.out.lt k hk
    show ((W.alloc _).alloc _).heap[k]? = _
    rw [Below.heap_alloc _ _ k (by simp; omega), Below.heap_alloc _ _ k hlt]
  have hc1 : Hid (((W.alloc (.cells (encT (newT m q r)) 148)).alloc (.cells #[.pointer (some ⟨w.heap.size + 2, 0, none⟩)] 99)).drew.cell? ⟨w.heap.size + 2 + 1, 0, none⟩ = some (.pointer (some ⟨w.heap.size + 2, 0, none⟩))) := by
    have := (Blk.new (W.alloc (.cells (encT (newT m q r)) 148)) #[.pointer (some ⟨w.heap.size + 2, 0, none⟩)] 99).cell 0
    simp [hsz] at this
    exact this
  obtain ⟨W2, hW2⟩ : ∃ W2, ((W.alloc (.cells (encT (newT m q r)) 148)).alloc (.cells #[.pointer (some ⟨w.heap.size + 2, 0, none⟩)] 99)).drew = W2 := ⟨_, rfl⟩
  have hB2 : Blk W2 mb (encM M) 104 := by rw [← hW2]; exact (HB.out.alloc _).alloc _
  have hT2 : Blk W2 (w.heap.size + 2) (encT (newT m q r)) 148 := by
    rw [← hW2]
    have := (Blk.new W (encT (newT m q r)) 148).alloc (.cells #[.pointer (some ⟨w.heap.size + 2, 0, none⟩)] 99)
    rw [hsz] at this
    exact this
  have hP2 : Blk W2 (w.heap.size + 1) (encO false 0 0 rep0) 43 := by rw [← hW2]; exact (P3.out.alloc _).alloc _
  have hsz2 : W2.heap.size = w.heap.size + 4 := by rw [← hW2]; show ((W.alloc _).alloc _).heap.size = _; simp [hsz]
  have hbel : Below W.heap.size W W2 := by rw [← hW2]; exact (((Below.refl _ _).alloc (Nat.le_refl _) _).alloc (by simp) _).drew
  rw [hW2] at HSW hc1 ⊢
  have HT2 := hid_of hT2
  have HB2 := hid_of hB2
  have HP2 := hid_of hP2
  have HBEL := hid_of hbel
  clear hW2 hB2 hT2 hP2 hbel d0 e0 e1 e2 c0 c3 c6 c9 r0 r1 r2 l1 l2
  go_wp2_with (at_builtin; (refine wpList_append_sl _ rfl (.tmp 48) (.tmp 57) 95 rfl 99 i0 (.pointer none) 1 8 (by rfl) hi0 hz0 hz1 hz2 rfl (by decide) _ _ _ rfl HSW.out ⟨w.heap.size + 2 + 1, 0, none⟩ 1 1 [.pointer (some ⟨w.heap.size + 2, 0, none⟩)] rfl rfl ?d1 ?d2 ?d3 ?d4 ?_))
  case d1 =>
    intro j u hu
    match j, hu with
    | 0, hu => cases hu; exact hc1.out
  case d2 => intro u hu; simp at hu; subst hu; rfl
  case d3 => unfold maxLen; omega
  case d4 => omega
  intro v' w1 hsl hgr hnew
  obtain ⟨ad', cap', rfl⟩ := hsl.form'
  have hblk : ∀ k, k < W2.heap.size → (Value.slice ad L cap).ownBlock ≠ some k → w1.heap[k]? = W2.heap[k]? := fun k hk hne => hgr.block k hk (Ne.symm hne)
  have hob : ∀ k, (Value.slice ad L cap).ownBlock = some k → mark own w.heap.size 50 k = 31 + m := fun k hk => P1.out.oq m hm3 k (by rw [HV.out]; exact hk)
  have hB3 : Blk w1 mb (encM M) 104 := (hblk mb HB2.out.lt (fun e => by have := hob mb e; rw [P1.out.omb] at this; omega)).trans HB2.out
  have hT3 : Blk w1 (w.heap.size + 2) (encT (newT m q r)) 148 := (hblk _ HT2.out.lt (fun e => by have := HS.out.lt _ e; omega)).trans HT2.out
  have hP3 : Blk w1 (w.heap.size + 1) (encO false 0 0 rep0) 43 := (hblk _ HP2.out.lt (fun e => by have := hob _ e; rw [p4] at this; omega)).trans HP2.out
  obtain ⟨own2, hown2⟩ : ∃ own2 : Nat → Nat, own2 = fun k => if k < w.heap.size + 2 then mark own w.heap.size 50 k else if k = w.heap.size + 2 then 34 else 31 + m := ⟨_, rfl⟩
  have ho2 : ∀ k, k < w.heap.size + 2 → own2 k = mark own w.heap.size 50 k := fun k hk => by rw [hown2]; exact if_pos hk
  have ho2n : own2 (w.heap.size + 2) = 34 := by rw [hown2]; show (if _ then _ else _) = _; rw [if_neg (by omega), if_pos rfl]
  have ho2g : ∀ k, w.heap.size + 2 < k → own2 k = 31 + m := fun k hk => by rw [hown2]; show (if _ then _ else _) = _; rw [if_neg (by omega), if_neg (by omega)]
  have hzw : W2.heap.size ≤ w1.heap.size := hgr.size
  obtain ⟨w3, rfl, hl3⟩ := hB3.out
  have hbm := P1.out.blk.lt
  have HFIN : Hid (∀ n' : Nat, MR own2 ((put w3 mb (encM { M with q := upd M.q m (.slice ad' (L + 1) cap'), ac := upd M.ac m (q + 1), tk := upd M.tk m true }) 104).drewN n') mb { M with q := upd M.q m (.slice ad' (L + 1) cap'), ac := upd M.ac m (q + 1), tk := upd M.tk m true } (tbN tb m q (w.heap.size + 2)) { σ with x := offX σ.x m r } ∧ Ext (mark own w.heap.size 50) own2 (fun k => k = 30 ∨ k = 31 + m) W ((put w3 mb (encM { M with q := upd M.q m (.slice ad' (L + 1) cap'), ac := upd M.ac m (q + 1), tk := upd M.tk m true }) 104).drewN n')) := by
    intro n'
    have hnm : ∀ k, mark own w.heap.size 50 k ≠ 30 → k ≠ mb := fun k hk e => hk (by rw [e]; exact P1.out.omb)
    have hx : Ext (mark own w.heap.size 50) own2 (fun k => k = 30 ∨ k = 31 + m) W ((put w3 mb (encM { M with q := upd M.q m (.slice ad' (L + 1) cap'), ac := upd M.ac m (q + 1), tk := upd M.tk m true }) 104).drewN n') := by
      refine ⟨(hgr.os.trans HBEL.out.os : _), (hgr.tape.trans HBEL.out.tape : _), (hgr.output.trans HBEL.out.output : _), ?_, fun k hk => ho2 k (by omega), fun k hk hs => ?_⟩
      · show W.heap.size ≤ (put w3 mb _ 104).heap.size
        rw [put_size]; rw [put_size] at hzw; omega
      · have hk1 : k ≠ mb := fun e => hs (.inl (by rw [e]; exact P1.out.omb))
        show (put w3 mb _ 104).heap[k]? = _
        rw [put_heap_ne _ _ _ _ _ hk1]
        have h9 := hblk k (by omega) (fun e => hs (.inr (hob k e)))
        rw [put_heap_ne _ _ _ _ _ hk1] at h9
        exact h9.trans (HBEL.out.block k hk)
    have hSl : Sl ((put w3 mb (encM { M with q := upd M.q m (.slice ad' (L + 1) cap'), ac := upd M.ac m (q + 1), tk := upd M.tk m true }) 104).drewN n') (.slice ad' (L + 1) cap') 99 1 (L + 1) (qrow tb m (σ.x.mp m).rt L ++ [.pointer (some ⟨w.heap.size + 2, 0, none⟩)]) := by
      refine hsl.same fun k hk => ?_
      have hk1 : k ≠ mb := by
        rcases hnew k hk with h9 | h9
        · exact hnm k (by rw [hob k h9]; omega)
        · omega
      show (put w3 mb _ 104).heap[k]? = _
      rw [put_heap_ne _ _ _ _ _ hk1, put_heap_ne _ _ _ _ _ hk1]
    have hT4 : Blk ((put w3 mb (encM { M with q := upd M.q m (.slice ad' (L + 1) cap'), ac := upd M.ac m (q + 1), tk := upd M.tk m true }) 104).drewN n') (w.heap.size + 2) (encT (newT m q r)) 148 :=
      (put_heap_ne _ _ _ _ _ (by omega)).trans ((put_heap_ne _ _ _ _ _ (by omega)).symm.trans hT3)
    have hmr := P1.out.off (nb := w.heap.size + 2) (v' := .slice ad' (L + 1) cap') HX.out hm3 r H4.out hx (by omega) ho2n (by rw [HQ.out]; exact Blk.put_same hl3) (by rw [HQ.out]; exact hT4) (by rw [HLE.out]; exact hSl)
      (fun k hk => by
        rcases hnew k hk with h9 | h9
        · rw [ho2 k (by have := HS.out.lt k h9; omega)]; exact hob k h9
        · exact ho2g k (by omega))
    rw [HQ.out] at hmr
    exact ⟨hmr, hx⟩
  have hn1m : w.heap.size + 1 ≠ mb := fun e => by rw [e, P1.out.omb] at p4; omega
  have hP4 : Hid (∀ n', Blk ((put w3 mb (encM { M with q := upd M.q m (.slice ad' (L + 1) cap'), ac := upd M.ac m (q + 1), tk := upd M.tk m true }) 104).drewN n') (w.heap.size + 1) (encO false 0 0 rep0) 43) := fun n' =>
    (put_heap_ne _ _ _ _ _ hn1m).trans ((put_heap_ne _ _ _ _ _ hn1m).symm.trans hP3)
  have ho21 : own2 (w.heap.size + 1) = 50 := (ho2 _ (by omega)).trans p4
  have hac : M.ac m = q := (P1.out.ac m hm3).trans HQ.out
  clear hB3 hT3 hP3 hblk hob hsl hgr hnew HSW hc1 HT2 HB2 HP2 HBEL hzw ho2 ho2n ho2g hown2 hsz2 hi0 hz0 hz1 hz2
  go_upto_region 9 with fail
  refine wp_region_qtail 10 mixed (by kernel_rfl) ?_
  simp only [List.take_succ_cons, List.take_zero, List.drop_succ_cons, List.drop_zero]
  repeat (go_big_quiet_step (fail))
  refine wpQuiet_nil ?_
  go_upto_region 11 with fail
  have hf9 := HFIN.out 1
  have hp9 := hP4.out 1
  obtain ⟨W9, hW9⟩ : ∃ W9, (put w3 mb (encM { M with q := upd M.q m (.slice ad' (L + 1) cap'), ac := upd M.ac m (q + 1), tk := upd M.tk m true }) 104).drew = W9 := ⟨_, rfl⟩
  have hd9 : (put w3 mb (encM { M with q := upd M.q m (.slice ad' (L + 1) cap'), ac := upd M.ac m (q + 1), tk := upd M.tk m true }) 104).drewN 1 = W9 := hW9
  rw [hd9] at hf9 hp9
  rw [hW9]
  have HPO := hid_of (mr_post hf9.1 ho21 ((P5.out.mono (S' := SM) (fun _ q => q.elim)).trans (hf9.2.mono (fun k q => by unfold SM; omega))) (by omega) (encO false 0 q rep0))
  clear hW9 hd9 hf9 HFIN hP4
  refine wp_region_list ?_
  go_wp2_with ((with_reducible show wpList _ _ _ ({ dst := none, op := Op.store 43 _ _, type := _, pos := _, after := _, guard := _ } :: _) _ _); rw [← encO_lit0]; refine wpList_store_row (by rfl) 43 (.tmp 6) (.tmp 78) (by rfl) (w.heap.size + 1) (encO false 0 q rep0) (by rfl) (by rfl) 43 (encO false 0 0 rep0) hp9 (by rw [Tryd.size43, encO_size]) (by rw [encO_size, encO_size]) (encO_one _ _ _ _) ?_; rw [setRow_put hp9])
  rw [HQ.out]
  exact bodyPost_ret (v := .agg (encO false 0 q rep0)) (results_cell_row (by rfl) _ _ (w.heap.size + 1) 43 _ (0, 0) _ (by rfl) (Blk.put_same hp9.lt) Tryd.underlying43 rfl (by rw [Tryd.size43, encO_size])) rfl ⟨rfl, own2, _, _, HPO.out.1, HPO.out.2⟩
/-- The machine's issue, in all cases. -/
theorem missue_any {own : Nat → Nat} {mb : Nat} {M : MA} {tb : Nat → Int → Nat} {σ : SS} {w : World} (h : MR own w mb M tb σ) {N : Int} {A : Nat} (hX : XInv N A σ) (hN : N < 4294967295) (a : Int) (ha : 0 ≤ a) (r : Req) :
    Calls Tryd.prog 37 #[.pointer (some ⟨mb, 0, none⟩), .int .u32 a, .agg #[.bool r.w, .int .u32 r.ad, .int .u32 r.da]] w fun e w' => e = .returned (.agg (encO (decide (3 ≤ a)) (issS σ.x a) (issQ σ.x a) rep0)) ∧ ∃ own' M' tb', MR own' w' mb M' tb' { σ with x := issX σ.x a r } ∧ Ext own own' SM w w' := by
  by_cases hno : 3 ≤ a ∨ offS σ.x a.toNat ≠ 0
  · refine (missue_no h hX a ha r hno).mono ?_
    rintro e w' ⟨rfl, own', h1, h2⟩
    exact ⟨rfl, own', M, tb, h1, h2⟩
  · have h3 : ¬ 3 ≤ a := fun q => hno (.inl q)
    have ho : offS σ.x a.toNat = 0 := by
      rcases Decidable.em (offS σ.x a.toNat = 0) with q | q
      · exact q
      · exact absurd (.inr q) hno
    obtain ⟨m, rfl⟩ : ∃ m : Nat, a = (m : Nat) := Int.eq_ofNat_of_zero_le ha
    have e1 : issS σ.x ((m : Nat) : Int) = 0 := by unfold issS; rw [if_neg h3]; exact ho
    rw [Int.toNat_natCast] at ho
    have e2 : issQ σ.x ((m : Nat) : Int) = (σ.x.mp m).iss := by unfold issQ; rw [if_neg h3, Int.toNat_natCast, if_pos ho]
    have e3 : issX σ.x ((m : Nat) : Int) r = offX σ.x m r := by unfold issX; rw [if_neg h3, Int.toNat_natCast, if_pos ho]
    rw [e1, e2, e3, decide_eq_false h3]
    refine (missue_yes h hX hN m (by omega) r ho).mono ?_
    rintro e w' ⟨rfl, own', M', nb, h1, h2⟩
    exact ⟨rfl, own', M', _, h1, h2⟩
end Go.Proofs.Qxb6500750aDoor
