import Derived.Test.Qxb6500750aDoorStep
namespace Go.Proofs.Qxb6500750aDoor
open Go.RowKit
attribute [local go_sem] put_size put_cell_same put_cell_ne put_frozen_same put_frozen_ne put_setCell_same put_setCell_ne put_drew
attribute [local go_sem] drewN_setCell drewN_alloc drewN_put
attribute [local go_sem] gg_0 gg_s
theorem encO_litR (ρ : RepD) : encO false 0 0 ρ = #[.bool false, .int .u8 0, .int .u32 0, .int .i8 (ρ.g 0), .int .i8 (ρ.g 1), .int .i8 (ρ.g 2), .int .i8 (ρ.g 3), .int .i8 (ρ.g 4), .int .i8 (ρ.g 5), .int .i8 (ρ.g 6), .bool (ρ.r 0).va, .int .u32 (ρ.r 0).sq, .int .u8 (ρ.r 0).st, .int .u32 (ρ.r 0).da, .int .u8 (ρ.r 0).re, .int .u8 (ρ.r 0).ca, .bool (ρ.r 1).va, .int .u32 (ρ.r 1).sq, .int .u8 (ρ.r 1).st, .int .u32 (ρ.r 1).da, .int .u8 (ρ.r 1).re, .int .u8 (ρ.r 1).ca, .bool (ρ.r 2).va, .int .u32 (ρ.r 2).sq, .int .u8 (ρ.r 2).st, .int .u32 (ρ.r 2).da, .int .u8 (ρ.r 2).re, .int .u8 (ρ.r 2).ca, .int .u8 (bitsV ρ.rs), .int .u8 (bitsV ρ.rp)] := by kernel_rfl
theorem RRep.oxb {own : Nat → Nat} {w : World} {rg xb : Nat} {pbs : Nat → Nat} {σ : SS} (h : RRep own w rg xb pbs σ) : own xb = 6 := h.x.oxb
/-- The crossbar turned under the rig. -/
theorem RRep.turned {own own' : Nat → Nat} {w w' : World} {rg xb : Nat} {pbs : Nat → Nat} {σ σ' : SS} (h : RRep own w rg xb pbs σ) (hx : Ext own own' (fun k => k ≤ 6 ∨ k = 49) w w') (h' : XRep own' w' xb pbs σ') : RRep own' w' rg xb pbs σ' :=
  ⟨h.blk.ext hx (by rw [h.org]; omega), (hx.keep rg h.blk.lt).trans h.org, h'⟩
set_option maxRecDepth 100000 in
set_option maxHeartbeats 4000000 in
theorem step_tick (own : Nat → Nat) (rg xb : Nat) (pbs : Nat → Nat) (σ : SS) (o : OpD) (hk : o.k = 3) (hok : TickOK o.a σ) (w : World) (h : RRep own w rg xb pbs σ) (hg : Glb own w) :
    Calls Tryd.prog 14 #[.pointer (some ⟨rg, 0, none⟩), .agg (opC o)] w fun e w' => e = .returned (.agg (encOb (stepO σ o))) ∧ ∃ own', RRep own' w' rg xb pbs (stepS σ o) ∧ Ext own own' (fun k => k ≤ 6 ∨ k = 49) w w' := by
  have e1 : stepO σ o = ⟨false, 0, 0, (tickF o.a σ).2⟩ := by unfold stepO; rw [if_neg (by omega), if_neg (by omega), if_pos hk]
  have e2 : stepS σ o = (tickF o.a σ).1 := by unfold stepS; rw [if_neg (by omega), if_neg (by omega), if_neg (by omega), if_pos hk]
  have HOK := hid_of hok
  have HG := hid_of (hg.ext (step_pre h (opC o)).2.2.2.2 (fun h => h))
  clear hok hg
  rw [e1, e2]
  clear e1 e2
  obtain ⟨p1, p2, p3, p4, p5⟩ := step_pre h (opC o)
  have P1 := hid_of p1
  have P3 := hid_of p3
  have P5 := hid_of p5
  have hlt := h.blk.lt
  have hcr := p1.blk.cell 0
  rw [gg_0] at hcr
  unfold opC at *
  have hc1 : ((w.alloc (.cells #[.int .u8 o.k, .int .u32 o.a, .int .u32 o.b, .int .u32 o.c] 31)).alloc (.cells (encO false 0 0 rep0) 43)).cell? ⟨w.heap.size, 1, none⟩ = some (.int .u32 o.a) := p2.cell 1
  have hc2 : ((w.alloc (.cells #[.int .u8 o.k, .int .u32 o.a, .int .u32 o.b, .int .u32 o.c] 31)).alloc (.cells (encO false 0 0 rep0) 43)).cell? ⟨w.heap.size, 2, none⟩ = some (.int .u32 o.b) := p2.cell 2
  have hc3 : ((w.alloc (.cells #[.int .u8 o.k, .int .u32 o.a, .int .u32 o.b, .int .u32 o.c] 31)).alloc (.cells (encO false 0 0 rep0) 43)).cell? ⟨w.heap.size, 3, none⟩ = some (.int .u32 o.c) := p2.cell 3
  clear h p1 p3 p5 p2
  rw [hk] at *
  go_enter Tryd.func14, Tryd.ntmps14
  go_wp2_with fail
  rw [← encO_zero]
  generalize hW : (w.alloc (.cells #[.int .u8 3, .int .u32 o.a, .int .u32 o.b, .int .u32 o.c] 31)).alloc (.cells (encO false 0 0 rep0) 43) = W at *
  generalize mark own w.heap.size 50 = own1 at *
  clear hW
  have hcr' : W.drew.cell? ⟨rg, 0, none⟩ = some (.pointer (some ⟨xb, 0, none⟩)) := hcr
  have hc1' : W.drew.cell? ⟨w.heap.size, 1, none⟩ = some (.int .u32 o.a) := hc1
  clear hcr hc1 hc2 hc3
  refine wp_region_float [0, 1, 2, 3, 4, 5] [6, 7, 8] [0, 1, 2, 4] mixed (fun ω => ω = W.drew) (by kernel_rfl) rfl (by kernel_rfl) rfl ?_
  iterate 6 refine wpFl_op _ _ _ _ rfl rfl (fun ω hj => by first | (obtain rfl := hj rfl; go_simp; rfl) | (go_simp; rfl)) ?_
  refine wpFl_nil _ _ ?_
  simp only [Act.put, List.setIfInBounds_toArray]
  refine wpCh_rest _ _ _ _ [_, _, _] _ _ rfl (by kernel_rfl) ?_
  simp only [List.getElem_toArray, List.getElem_cons_succ, List.getElem_cons_zero]
  have hdr : Ext own1 own1 (fun _ => False) W W.drew := Ext.drew (Ext.refl _ _ _)
  have PD := hid_of (P1.out.ext hdr (fun _ _ h => h))
  go_wp2_with fail
  refine (xtick_any own1 xb pbs σ o.a W.drew PD.out.x (HG.out.ext hdr (fun h => h)) HOK.out).mono ?_
  rintro e w2 ⟨rfl, own2, h2, hx2⟩
  have hx3 := (hdr.mono (S' := fun k => k ≤ 6 ∨ k = 49) (fun _ h => h.elim)).trans hx2
  have HB2 := hid_of (P3.out.ext hx3 (by rw [p4]; omega))
  have ho2 : own2 (w.heap.size + 1) = 50 := (hx3.keep _ P3.out.lt).trans p4
  have HF := hid_of (step_post (P1.out.turned hx3 h2) ho2 ((P5.out.mono (S' := fun k => k ≤ 6 ∨ k = 49) (fun _ h => h.elim)).trans hx3) (Nat.le_succ _) (encO false 0 0 (tickF o.a σ).2))
  clear h2 hx2 hx3 hcr' hc1' hdr
  rw [encR_lit]
  go_wp2_with ((with_reducible show wpList _ _ _ ({ dst := none, op := Op.store 43 _ _, type := _, pos := _, after := _, guard := _ } :: _) _ _); rw [← encO_litR]; refine wpList_store_row (by rfl) 43 (.tmp 4) (.tmp 64) (by rfl) (w.heap.size + 1) (encO false 0 0 (tickF o.a σ).2) (by rfl) (by rfl) 43 (encO false 0 0 rep0) HB2.out (by rw [Tryd.size43, encO_size]) (by simp only [encO_size]) (encO_one _ _ _ _) ?_; rw [setRow_put HB2.out])
  exact bodyPost_ret (v := .agg (encO false 0 0 (tickF o.a σ).2)) (results_cell_row (by rfl) _ _ (w.heap.size + 1) 43 _ (0, 0) _ (by rfl) (Blk.put_same HB2.out.lt) Tryd.underlying43 rfl (by rw [Tryd.size43, encO_size])) rfl ⟨rfl, own2, HF.out.1, HF.out.2⟩
set_option maxRecDepth 100000 in
set_option maxHeartbeats 4000000 in
theorem step_reset (own : Nat → Nat) (rg xb : Nat) (pbs : Nat → Nat) (σ : SS) (o : OpD) (hk : o.k = 5) (w : World) (h : RRep own w rg xb pbs σ) :
    Calls Tryd.prog 14 #[.pointer (some ⟨rg, 0, none⟩), .agg (opC o)] w fun e w' => e = .returned (.agg (encOb (stepO σ o))) ∧ ∃ own', RRep own' w' rg xb pbs (stepS σ o) ∧ Ext own own' (fun k => k ≤ 6 ∨ k = 49) w w' := by
  have e1 : stepO σ o = ⟨false, 0, 0, rep0⟩ := by unfold stepO; rw [if_neg (by omega), if_neg (by omega), if_neg (by omega), if_neg (by omega), if_pos hk]
  have e2 : stepS σ o = { σ with x := rstX σ.x } := by unfold stepS; rw [if_neg (by omega), if_neg (by omega), if_neg (by omega), if_neg (by omega), if_neg (by omega), if_pos hk]
  rw [e1, e2]
  clear e1 e2
  obtain ⟨p1, p2, p3, p4, p5⟩ := step_pre h (opC o)
  have P1 := hid_of p1
  have P3 := hid_of p3
  have P5 := hid_of p5
  have hlt := h.blk.lt
  have hcr := p1.blk.cell 0
  rw [gg_0] at hcr
  unfold opC at *
  have hc1 : ((w.alloc (.cells #[.int .u8 o.k, .int .u32 o.a, .int .u32 o.b, .int .u32 o.c] 31)).alloc (.cells (encO false 0 0 rep0) 43)).cell? ⟨w.heap.size, 1, none⟩ = some (.int .u32 o.a) := p2.cell 1
  have hc2 : ((w.alloc (.cells #[.int .u8 o.k, .int .u32 o.a, .int .u32 o.b, .int .u32 o.c] 31)).alloc (.cells (encO false 0 0 rep0) 43)).cell? ⟨w.heap.size, 2, none⟩ = some (.int .u32 o.b) := p2.cell 2
  have hc3 : ((w.alloc (.cells #[.int .u8 o.k, .int .u32 o.a, .int .u32 o.b, .int .u32 o.c] 31)).alloc (.cells (encO false 0 0 rep0) 43)).cell? ⟨w.heap.size, 3, none⟩ = some (.int .u32 o.c) := p2.cell 3
  clear h p1 p3 p5 p2
  rw [hk] at *
  rw [encO_zero] at hcr
  go_enter Tryd.func14, Tryd.ntmps14
  go_wp2_with fail
  rw [← encO_zero]
  generalize hW : (w.alloc (.cells #[.int .u8 5, .int .u32 o.a, .int .u32 o.b, .int .u32 o.c] 31)).alloc (.cells (encO false 0 0 rep0) 43) = W at *
  generalize mark own w.heap.size 50 = own1 at *
  clear hW
  obtain ⟨w0, rfl, hl0⟩ := P1.out.x.blk.out
  refine (reset_any (lk pbs) xb σ.x w0 hl0).mono ?_
  rintro e w2 ⟨rfl, n, rfl⟩
  have hx2 : Ext own1 own1 (fun k => k ≤ 6 ∨ k = 49) (put w0 xb (encX (lk pbs) σ.x) 132) ((put w0 xb (encX (lk pbs) (rstX σ.x)) 132).drewN n) := Ext.drewN (ext_put' (.inl (by rw [P1.out.oxb]; omega))) n
  have h2 : XRep own1 ((put w0 xb (encX (lk pbs) (rstX σ.x)) 132).drewN n) xb pbs { σ with x := rstX σ.x } := (P1.out.x.turn' (rstX σ.x)).ext (Ext.drewN (Ext.refl _ (fun _ => False) _) n) (fun _ _ h => h)
  have HB2 := hid_of (P3.out.ext hx2 (by rw [p4]; omega))
  have ho2 : own1 (w.heap.size + 1) = 50 := p4
  have HF := hid_of (step_post (P1.out.turned hx2 h2) ho2 ((P5.out.mono (S' := fun k => k ≤ 6 ∨ k = 49) (fun _ h => h.elim)).trans hx2) (Nat.le_succ _) (encO false 0 0 rep0))
  clear h2 hx2 hcr hc1 hc2 hc3
  go_wp2_with ((with_reducible show wpList _ _ _ ({ dst := none, op := Op.store 43 _ _, type := _, pos := _, after := _, guard := _ } :: _) _ _); rw [← encO_lit0]; refine wpList_store_row (by rfl) 43 (.tmp 4) (.tmp 88) (by rfl) (w.heap.size + 1) (encO false 0 0 rep0) (by rfl) (by rfl) 43 (encO false 0 0 rep0) HB2.out (by rw [Tryd.size43, encO_size]) (by simp only [encO_size]) (encO_one _ _ _ _) ?_; rw [setRow_put HB2.out])
  exact bodyPost_ret (v := .agg (encO false 0 0 rep0)) (results_cell_row (by rfl) _ _ (w.heap.size + 1) 43 _ (0, 0) _ (by rfl) (Blk.put_same HB2.out.lt) Tryd.underlying43 rfl (by rw [Tryd.size43, encO_size])) rfl ⟨rfl, own1, HF.out.1, HF.out.2⟩
/-! ### Isolate, by the script's argument -/
theorem and_one (a : Int) (h0 : 0 ≤ a) (h1 : a < 4294967296) : bits BinOp.and IntKind.u32 a 1 = a % 2 := by
  obtain ⟨x, rfl⟩ := Int.eq_ofNat_of_zero_le h0
  rw [u32_and x 1 (by omega) (by omega) (by omega) (by omega), Int.toNat_natCast]
  have : (1 : Int).toNat = 2 ^ 1 - 1 := rfl
  rw [this, Nat.and_two_pow_sub_one_eq_mod]
  omega
structure IsoOK (x : XS) : Prop where
  a : ∀ m, m < 3 → 0 ≤ (x.mp m).gr
  b : ∀ m, m < 3 → (x.mp m).gr ≤ (x.mp m).iss
  c : ∀ m, m < 3 → (x.mp m).iss < 4294967296
theorem isolate_x (own : Nat → Nat) (xb : Nat) (pbs : Nat → Nat) (σ : SS) (i : Int) (on : Bool) (hok : IsoOK σ.x) (w : World) (h : XRep own w xb pbs σ) :
    Calls Tryd.prog 34 #[.pointer (some ⟨xb, 0, none⟩), .int .i64 i, .bool on] w fun e w' => e = .returned (.bool (isoR i)) ∧ XRep own w' xb pbs { σ with x := isoX σ.x i on } ∧ Ext own own (· ≤ 6) w w' := by
  by_cases h9 : i < 0 ∨ 9 ≤ i
  · have e1 : isoR i = false := by unfold isoR; rcases h9 with h | h <;> simp [h]
    have e2 : isoX σ.x i on = σ.x := if_pos h9
    rw [e1, e2]
    refine (isolate_none xb i on h9 w).mono ?_
    rintro e w' ⟨rfl, hw⟩
    obtain rfl := hw.symm
    exact ⟨rfl, h, Ext.refl _ _ _⟩
  · have e1 : isoR i = true := by unfold isoR; simp; omega
    have hox := h.oxb
    obtain ⟨w0, rfl, hl0⟩ := h.blk.out
    by_cases h3 : 3 ≤ i
    · have e2 : isoX σ.x i on = σ.x.setT (i - 3).toNat { σ.x.tp (i - 3).toNat with iso := on } := by unfold isoX; rw [if_neg h9, if_pos h3]
      have e3 : i = (((i - 3).toNat + 3 : Nat) : Int) := by omega
      rw [e1, e2, show (Value.int .i64 i) = Value.int .i64 (((i - 3).toNat + 3 : Nat) : Int) from by rw [← e3]]
      refine (isolate_slave (lk pbs) xb σ.x (i - 3).toNat on (by omega) w0 hl0).mono ?_
      rintro e w' ⟨rfl, rfl⟩
      exact ⟨rfl, h.turn' _, ext_put' (by rw [hox]; omega)⟩
    · have e2 : isoX σ.x i on = isoM σ.x i.toNat on := by unfold isoX; rw [if_neg h9, if_neg h3]
      have e3 : i = ((i.toNat : Nat) : Int) := by omega
      have hm : i.toNat < 3 := by omega
      rw [e1, e2, show (Value.int .i64 i) = Value.int .i64 ((i.toNat : Nat) : Int) from by rw [← e3]]
      refine (isolate_master (lk pbs) xb σ.x i.toNat on hm (hok.a _ hm) (hok.b _ hm) (hok.c _ hm) w0 hl0).mono ?_
      rintro e w' ⟨rfl, n, rfl⟩
      exact ⟨rfl, (h.turn' _).ext (Ext.drewN (Ext.refl _ (fun _ => False) _) n) (fun _ _ h => h), Ext.drewN (ext_put' (by rw [hox]; omega)) n⟩
set_option maxRecDepth 100000 in
set_option maxHeartbeats 4000000 in
theorem step_isolate (own : Nat → Nat) (rg xb : Nat) (pbs : Nat → Nat) (σ : SS) (o : OpD) (hk : o.k = 4) (ha : 0 ≤ o.a) (ha1 : o.a < 4294967296) (hb : 0 ≤ o.b) (hb1 : o.b < 4294967296) (hok : IsoOK σ.x) (w : World) (h : RRep own w rg xb pbs σ) :
    Calls Tryd.prog 14 #[.pointer (some ⟨rg, 0, none⟩), .agg (opC o)] w fun e w' => e = .returned (.agg (encOb (stepO σ o))) ∧ ∃ own', RRep own' w' rg xb pbs (stepS σ o) ∧ Ext own own' (fun k => k ≤ 6 ∨ k = 49) w w' := by
  have e1 : stepO σ o = ⟨!isoR (idx o.a), 0, 0, rep0⟩ := by unfold stepO; rw [if_neg (by omega), if_neg (by omega), if_neg (by omega), if_pos hk]
  have e2 : stepS σ o = { σ with x := isoX σ.x (idx o.a) (o.b % 2 == 1) } := by unfold stepS; rw [if_neg (by omega), if_neg (by omega), if_neg (by omega), if_neg (by omega), if_pos hk]
  have HOK := hid_of hok
  have hab := and_one o.b hb hb1
  have hia := index_any o.a ha ha1
  clear hok
  rw [e1, e2]
  clear e1 e2
  obtain ⟨p1, p2, p3, p4, p5⟩ := step_pre h (opC o)
  have P1 := hid_of p1
  have P3 := hid_of p3
  have P5 := hid_of p5
  have hlt := h.blk.lt
  have hcr := p1.blk.cell 0
  rw [gg_0] at hcr
  unfold opC at *
  have hc1 : ((w.alloc (.cells #[.int .u8 o.k, .int .u32 o.a, .int .u32 o.b, .int .u32 o.c] 31)).alloc (.cells (encO false 0 0 rep0) 43)).cell? ⟨w.heap.size, 1, none⟩ = some (.int .u32 o.a) := p2.cell 1
  have hc2 : ((w.alloc (.cells #[.int .u8 o.k, .int .u32 o.a, .int .u32 o.b, .int .u32 o.c] 31)).alloc (.cells (encO false 0 0 rep0) 43)).cell? ⟨w.heap.size, 2, none⟩ = some (.int .u32 o.b) := p2.cell 2
  have hc3 : ((w.alloc (.cells #[.int .u8 o.k, .int .u32 o.a, .int .u32 o.b, .int .u32 o.c] 31)).alloc (.cells (encO false 0 0 rep0) 43)).cell? ⟨w.heap.size, 3, none⟩ = some (.int .u32 o.c) := p2.cell 3
  clear h p1 p3 p5 p2
  rw [hk] at *
  go_enter Tryd.func14, Tryd.ntmps14
  go_wp2_with fail
  rw [← encO_zero]
  generalize hW : (w.alloc (.cells #[.int .u8 4, .int .u32 o.a, .int .u32 o.b, .int .u32 o.c] 31)).alloc (.cells (encO false 0 0 rep0) 43) = W at *
  generalize mark own w.heap.size 50 = own1 at *
  clear hW
  have hcr' : W.drew.cell? ⟨rg, 0, none⟩ = some (.pointer (some ⟨xb, 0, none⟩)) := hcr
  have hc1' : W.drew.cell? ⟨w.heap.size, 1, none⟩ = some (.int .u32 o.a) := hc1
  have hc2' : W.drew.cell? ⟨w.heap.size, 2, none⟩ = some (.int .u32 o.b) := hc2
  have hc3' : W.drew.cell? ⟨w.heap.size, 3, none⟩ = some (.int .u32 o.c) := hc3
  clear hcr hc1 hc2 hc3
  refine wp_region_float [0, 1, 2, 3, 4, 5, 6, 7, 8, 9, 10] [11, 12, 13, 14] [0, 1, 2, 4, 7, 9, 10] mixed (fun ω => ω = W.drew) (by kernel_rfl) rfl (by kernel_rfl) rfl ?_
  iterate 6 refine wpFl_op _ _ _ _ rfl rfl (fun ω hj => by first | (obtain rfl := hj rfl; go_simp; rfl) | (go_simp; rfl)) ?_
  refine wpFl_call _ _ _ _ 35 #[.int .u32 o.a] rfl rfl (fun ω => by go_simp) (fun ω hj => hia ω) ?_
  iterate 4 refine wpFl_op _ _ _ _ rfl rfl (fun ω hj => by first | (obtain rfl := hj rfl; go_simp; rfl) | (go_simp; rfl)) ?_
  refine wpFl_nil _ _ ?_
  simp only [Act.put, List.setIfInBounds_toArray]
  refine wpCh_rest _ _ _ _ [_, _, _, _] _ _ rfl (by kernel_rfl) ?_
  simp only [List.getElem_toArray, List.getElem_cons_succ, List.getElem_cons_zero]
  have hdr : Ext own1 own1 (fun _ => False) W W.drew := Ext.drew (Ext.refl _ _ _)
  have PD := hid_of (P1.out.ext hdr (fun _ _ h => h))
  go_wp2_with fail
  refine (isolate_x own1 xb pbs σ (idx o.a) (o.b % 2 == 1) HOK.out W.drew PD.out.x).mono ?_
  rintro e w2 ⟨rfl, h2, hx2⟩
  have hx3 := (hdr.mono (S' := fun k => k ≤ 6 ∨ k = 49) (fun _ h => h.elim)).trans (hx2.mono (S' := fun k => k ≤ 6 ∨ k = 49) (fun _ h => .inl h))
  have HB2 := hid_of (P3.out.ext hx3 (by rw [p4]; omega))
  have HF := hid_of (step_post (P1.out.turned hx3 h2) p4 ((P5.out.mono (S' := fun k => k ≤ 6 ∨ k = 49) (fun _ h => h.elim)).trans hx3) (Nat.le_succ _) (encO (!isoR (idx o.a)) 0 0 rep0))
  clear h2 hx2 hx3 hcr' hc1' hc2' hc3' hdr
  go_wp2_with ((with_reducible show wpList _ _ _ ({ dst := none, op := Op.store 43 _ _, type := _, pos := _, after := _, guard := _ } :: _) _ _); rw [← encO_lit0]; refine wpList_store_row (by rfl) 43 (.tmp 4) (.tmp 80) (by rfl) (w.heap.size + 1) (encO (!isoR (idx o.a)) 0 0 rep0) (by rfl) (by rfl) 43 (encO false 0 0 rep0) HB2.out (by rw [Tryd.size43, encO_size]) (by simp only [encO_size]) (encO_one _ _ _ _) ?_; rw [setRow_put HB2.out])
  exact bodyPost_ret (v := .agg (encO (!isoR (idx o.a)) 0 0 rep0)) (results_cell_row (by rfl) _ _ (w.heap.size + 1) 43 _ (0, 0) _ (by rfl) (Blk.put_same HB2.out.lt) Tryd.underlying43 rfl (by rw [Tryd.size43, encO_size])) rfl ⟨rfl, own1, HF.out.1, HF.out.2⟩
end Go.Proofs.Qxb6500750aDoor
