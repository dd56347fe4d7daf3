import Derived.Test.Qxb6500750aDoorStp
namespace Go.Proofs.Qxb6500750aDoor
open Go.RowKit
attribute [local go_sem] put_size put_cell_same put_cell_ne put_frozen_same put_frozen_ne put_setCell_same put_setCell_ne put_drew
attribute [local go_sem] drewN_setCell drewN_alloc drewN_put
attribute [local go_sem] gg_0 gg_s
/-! ### rig.step -/
structure OpD where
  k : Int
  a : Int
  b : Int
  c : Int
def opC (o : OpD) : Array Value := #[.int .u8 o.k, .int .u32 o.a, .int .u32 o.b, .int .u32 o.c]
structure ObsD where
  rf : Bool
  is : Int
  sq : Int
  t : RepD
def encOb (o : ObsD) : Array Value := encO o.rf o.is o.sq o.t
def planTaken (σ : SS) (o : OpD) : Bool := decide (o.a < 6) && decide (o.b < 6) && decide ((σ.p o.a.toNat).plans.length < 8)
def stepS (σ : SS) (o : OpD) : SS :=
  if o.k = 0 then { σ with x := issX σ.x o.a ⟨false, o.b, 0⟩ }
  else if o.k = 1 then { σ with x := issX σ.x o.a ⟨true, o.b, o.c⟩ }
  else if o.k = 2 then (if planTaken σ o = true then { σ with p := upd σ.p o.a.toNat { σ.p o.a.toNat with plans := (σ.p o.a.toNat).plans ++ [⟨o.b, o.c⟩] } } else σ)
  else if o.k = 3 then (tickF o.a σ).1
  else if o.k = 4 then { σ with x := isoX σ.x (idx o.a) (o.b % 2 == 1) }
  else if o.k = 5 then { σ with x := rstX σ.x }
  else σ
def stepO (σ : SS) (o : OpD) : ObsD :=
  if o.k = 0 ∨ o.k = 1 then ⟨decide (3 ≤ o.a), issS σ.x o.a, issQ σ.x o.a, rep0⟩
  else if o.k = 2 then ⟨!planTaken σ o, 0, 0, rep0⟩
  else if o.k = 3 then ⟨false, 0, 0, (tickF o.a σ).2⟩
  else if o.k = 4 then ⟨!isoR (idx o.a), 0, 0, rep0⟩
  else if o.k = 5 then ⟨false, 0, 0, rep0⟩
  else ⟨true, 0, 0, rep0⟩
theorem step_pre {own : Nat → Nat} {rg xb : Nat} {pbs : Nat → Nat} {σ : SS} {w : World} (h : RRep own w rg xb pbs σ) (oc : Array Value) :
    RRep (mark own w.heap.size 50) ((w.alloc (.cells oc 31)).alloc (.cells (encO false 0 0 rep0) 43)) rg xb pbs σ ∧ Blk ((w.alloc (.cells oc 31)).alloc (.cells (encO false 0 0 rep0) 43)) w.heap.size oc 31 ∧
    Blk ((w.alloc (.cells oc 31)).alloc (.cells (encO false 0 0 rep0) 43)) (w.heap.size + 1) (encO false 0 0 rep0) 43 ∧ mark own w.heap.size 50 (w.heap.size + 1) = 50 ∧
    Ext own (mark own w.heap.size 50) (fun _ => False) w ((w.alloc (.cells oc 31)).alloc (.cells (encO false 0 0 rep0) 43)) := by
  have hx : Ext own (mark own w.heap.size 50) (fun _ => False) w ((w.alloc (.cells oc 31)).alloc (.cells (encO false 0 0 rep0) 43)) := (Ext.alloc own _ w _ 50).trans (Ext.alloc' _ _ _ _)
  refine ⟨h.ext hx (fun _ _ h => h), (Blk.new w oc 31).alloc _, ?_, mark_ge (Nat.le_succ _), hx⟩
  have := Blk.new (w.alloc (.cells oc 31)) (encO false 0 0 rep0) 43
  simp at this
  exact this
theorem step_post {own own2 : Nat → Nat} {S : Nat → Prop} {rg xb ob : Nat} {pbs : Nat → Nat} {σ : SS} {w w2 : World} (h : RRep own2 w2 rg xb pbs σ) (ho : own2 ob = 50) (hx : Ext own own2 S w w2) (hl : w.heap.size ≤ ob) (O : Array Value) :
    RRep own2 (put w2 ob O 43) rg xb pbs σ ∧ Ext own own2 S w (put w2 ob O 43) :=
  ⟨h.ext (Ext.put (S := (· = 50)) ho) (fun k hk e => by omega), hx.shut (Below.put (Below.refl _ _) hl _ _)⟩
set_option maxRecDepth 100000 in
set_option maxHeartbeats 4000000 in
theorem step_read (own : Nat → Nat) (rg xb : Nat) (pbs : Nat → Nat) (σ : SS) (o : OpD) (hk : o.k = 0) (ha : 0 ≤ o.a) (ha1 : o.a < 4294967296) (hok : IssOK σ.x) (w : World) (h : RRep own w rg xb pbs σ) :
    Calls Tryd.prog 14 #[.pointer (some ⟨rg, 0, none⟩), .agg (opC o)] w fun e w' => e = .returned (.agg (encOb (stepO σ o))) ∧ ∃ own', RRep own' w' rg xb pbs (stepS σ o) ∧ Ext own own' (fun k => k ≤ 6 ∨ k = 49) w w' := by
  have e1 : stepO σ o = ⟨decide (3 ≤ o.a), issS σ.x o.a, issQ σ.x o.a, rep0⟩ := by unfold stepO; rw [if_pos (by omega)]
  have e2 : stepS σ o = { σ with x := issX σ.x o.a ⟨false, o.b, 0⟩ } := by unfold stepS; rw [if_pos hk]
  have HOK := hid_of hok
  clear hok
  rw [e1, e2]
  clear e1 e2
  obtain ⟨p1, p2, p3, p4, p5⟩ := step_pre h (opC o)
  have P1 := hid_of p1
  have P3 := hid_of p3
  have P5 := hid_of p5
  have hlt := h.blk.lt
  have hcr := p1.blk.cell 0
  rw [gg_0] at hcr
  clear h p1 p3 p5
  unfold opC at *
  rw [hk] at *
  go_enter Tryd.func14, Tryd.ntmps14
  go_wp2_with fail
  rw [← encO_zero]
  refine (rissue_any _ rg xb pbs σ o.a ⟨false, o.b, 0⟩ ha ha1 HOK.out _ P1.out).mono ?_
  rintro e w2 ⟨rfl, own2, h2, hx2⟩
  have HB2 := hid_of (P3.out.ext hx2 (by rw [p4]; omega))
  have ho2 : own2 (w.heap.size + 1) = 50 := (hx2.keep _ P3.out.lt).trans p4
  have HF := hid_of (step_post h2 ho2 ((P5.out.mono (S' := fun k => k ≤ 6 ∨ k = 49) (fun _ h => h.elim)).trans (hx2.mono (fun _ h => .inl h))) (Nat.le_succ _) (encO (decide (3 ≤ o.a)) (issS σ.x o.a) (issQ σ.x o.a) rep0))
  clear h2 hx2 hcr p2
  go_wp2_with ((with_reducible show wpList _ _ _ ({ dst := none, op := Op.store 43 _ _, type := _, pos := _, after := _, guard := _ } :: _) _ _); refine wpList_store_row (by rfl) 43 (.tmp 4) (.tmp 16) (by rfl) (w.heap.size + 1) (encO (decide (3 ≤ o.a)) (issS σ.x o.a) (issQ σ.x o.a) rep0) (by rfl) (by rfl) 43 (encO false 0 0 rep0) HB2.out (by rw [Tryd.size43, encO_size]) (by rw [encO_size, encO_size]) (encO_one _ _ _ _) ?_; rw [setRow_put HB2.out])
  exact bodyPost_ret (v := .agg (encO (decide (3 ≤ o.a)) (issS σ.x o.a) (issQ σ.x o.a) rep0)) (results_cell_row (by rfl) _ _ (w.heap.size + 1) 43 _ (0, 0) _ (by rfl) (Blk.put_same HB2.out.lt) Tryd.underlying43 rfl (by rw [Tryd.size43, encO_size])) rfl ⟨rfl, own2, HF.out.1, HF.out.2⟩
set_option maxRecDepth 100000 in
set_option maxHeartbeats 4000000 in
theorem step_write (own : Nat → Nat) (rg xb : Nat) (pbs : Nat → Nat) (σ : SS) (o : OpD) (hk : o.k = 1) (ha : 0 ≤ o.a) (ha1 : o.a < 4294967296) (hok : IssOK σ.x) (w : World) (h : RRep own w rg xb pbs σ) :
    Calls Tryd.prog 14 #[.pointer (some ⟨rg, 0, none⟩), .agg (opC o)] w fun e w' => e = .returned (.agg (encOb (stepO σ o))) ∧ ∃ own', RRep own' w' rg xb pbs (stepS σ o) ∧ Ext own own' (fun k => k ≤ 6 ∨ k = 49) w w' := by
  have e1 : stepO σ o = ⟨decide (3 ≤ o.a), issS σ.x o.a, issQ σ.x o.a, rep0⟩ := by unfold stepO; rw [if_pos (by omega)]
  have e2 : stepS σ o = { σ with x := issX σ.x o.a ⟨true, o.b, o.c⟩ } := by unfold stepS; rw [if_neg (by omega)]; rw [if_pos hk]
  have HOK := hid_of hok
  clear hok
  rw [e1, e2]
  clear e1 e2
  obtain ⟨p1, p2, p3, p4, p5⟩ := step_pre h (opC o)
  have P1 := hid_of p1
  have P3 := hid_of p3
  have P5 := hid_of p5
  have hlt := h.blk.lt
  have hcr := p1.blk.cell 0
  rw [gg_0] at hcr
  clear h p1 p3 p5
  unfold opC at *
  rw [hk] at *
  go_enter Tryd.func14, Tryd.ntmps14
  go_wp2_with fail
  rw [← encO_zero]
  refine (rissue_any _ rg xb pbs σ o.a ⟨true, o.b, o.c⟩ ha ha1 HOK.out _ P1.out).mono ?_
  rintro e w2 ⟨rfl, own2, h2, hx2⟩
  have HB2 := hid_of (P3.out.ext hx2 (by rw [p4]; omega))
  have ho2 : own2 (w.heap.size + 1) = 50 := (hx2.keep _ P3.out.lt).trans p4
  have HF := hid_of (step_post h2 ho2 ((P5.out.mono (S' := fun k => k ≤ 6 ∨ k = 49) (fun _ h => h.elim)).trans (hx2.mono (fun _ h => .inl h))) (Nat.le_succ _) (encO (decide (3 ≤ o.a)) (issS σ.x o.a) (issQ σ.x o.a) rep0))
  clear h2 hx2 hcr p2
  go_wp2_with ((with_reducible show wpList _ _ _ ({ dst := none, op := Op.store 43 _ _, type := _, pos := _, after := _, guard := _ } :: _) _ _); refine wpList_store_row (by rfl) 43 (.tmp 4) (.tmp 27) (by rfl) (w.heap.size + 1) (encO (decide (3 ≤ o.a)) (issS σ.x o.a) (issQ σ.x o.a) rep0) (by rfl) (by rfl) 43 (encO false 0 0 rep0) HB2.out (by rw [Tryd.size43, encO_size]) (by rw [encO_size, encO_size]) (encO_one _ _ _ _) ?_; rw [setRow_put HB2.out])
  exact bodyPost_ret (v := .agg (encO (decide (3 ≤ o.a)) (issS σ.x o.a) (issQ σ.x o.a) rep0)) (results_cell_row (by rfl) _ _ (w.heap.size + 1) 43 _ (0, 0) _ (by rfl) (Blk.put_same HB2.out.lt) Tryd.underlying43 rfl (by rw [Tryd.size43, encO_size])) rfl ⟨rfl, own2, HF.out.1, HF.out.2⟩
set_option maxRecDepth 100000 in
set_option maxHeartbeats 4000000 in
theorem step_other (own : Nat → Nat) (rg xb : Nat) (pbs : Nat → Nat) (σ : SS) (o : OpD) (hk0 : 6 ≤ o.k) (w : World) (h : RRep own w rg xb pbs σ) :
    Calls Tryd.prog 14 #[.pointer (some ⟨rg, 0, none⟩), .agg (opC o)] w fun e w' => e = .returned (.agg (encOb (stepO σ o))) ∧ ∃ own', RRep own' w' rg xb pbs (stepS σ o) ∧ Ext own own' (fun k => k ≤ 6 ∨ k = 49) w w' := by
  have e1 : stepO σ o = ⟨true, 0, 0, rep0⟩ := by unfold stepO; rw [if_neg (by omega), if_neg (by omega), if_neg (by omega), if_neg (by omega), if_neg (by omega)]
  have e2 : stepS σ o = σ := by unfold stepS; rw [if_neg (by omega), if_neg (by omega), if_neg (by omega), if_neg (by omega), if_neg (by omega), if_neg (by omega)]
  have k0 : (o.k == 0) = false := by simp; omega
  have k1 : (o.k == 1) = false := by simp; omega
  have k2 : (o.k == 2) = false := by simp; omega
  have k3 : (o.k == 3) = false := by simp; omega
  have k4 : (o.k == 4) = false := by simp; omega
  have k5 : (o.k == 5) = false := by simp; omega
  rw [e1, e2]
  clear e1 e2
  obtain ⟨p1, p2, p3, p4, p5⟩ := step_pre h (opC o)
  have P1 := hid_of p1
  have P3 := hid_of p3
  have P5 := hid_of p5
  have hlt := h.blk.lt
  have hcr := p1.blk.cell 0
  rw [gg_0] at hcr
  clear h p1 p3 p5
  unfold opC at *
  have HB2 := P3
  have HF := hid_of (step_post P1.out p4 (P5.out.mono (S' := fun k => k ≤ 6 ∨ k = 49) (fun _ h => h.elim)) (Nat.le_succ _) (encO true 0 0 rep0))
  clear hcr p2
  rw [encO_zero] at HB2 HF
  go_enter Tryd.func14, Tryd.ntmps14
  go_wp2_with ((with_reducible show wpList _ _ _ ({ dst := none, op := Op.store 43 _ _, type := _, pos := _, after := _, guard := _ } :: _) _ _); rw [← encO_lit0]; refine wpList_store_row (by rfl) 43 (.tmp 4) (.tmp 7) (by rfl) (w.heap.size + 1) (encO true 0 0 rep0) (by rfl) (by rfl) 43 (encO false 0 0 rep0) HB2.out (by rw [Tryd.size43, encO_size]) (by rw [encO_size, encO_size]) (encO_one _ _ _ _) ?_; rw [setRow_put HB2.out])
  exact bodyPost_ret (v := .agg (encO true 0 0 rep0)) (results_cell_row (by rfl) _ _ (w.heap.size + 1) 43 _ (0, 0) _ (by rfl) (Blk.put_same HB2.out.lt) Tryd.underlying43 rfl (by rw [Tryd.size43, encO_size])) rfl ⟨rfl, _, HF.out.1, HF.out.2⟩
end Go.Proofs.Qxb6500750aDoor
