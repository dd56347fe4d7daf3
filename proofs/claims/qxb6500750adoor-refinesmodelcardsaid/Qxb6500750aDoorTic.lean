import Derived.Test.Qxb6500750aDoorArb
import Derived.Test.Qxb6500750aDoorCol
import Derived.Test.Qxb6500750aDoorWhole
import Derived.Deep.DeepCutAuto
import Derived.Deep.CutBlock
namespace Go.Proofs.Qxb6500750aDoor
open Go.RowKit
attribute [local go_sem] put_size put_cell_same put_cell_ne put_frozen_same put_frozen_ne put_setCell_same put_setCell_ne put_drew
attribute [local go_sem] drewN_setCell drewN_alloc drewN_put
/-! ### Tick -/
def ret0 : Ret := ⟨false, 0, 0, 0, 0, 0⟩
def rep0 : RepD := ⟨fun _ => 0, fun _ => ret0, fun _ => false, fun _ => false⟩
theorem encR_lit (ρ : RepD) : encR ρ = #[.int .i8 (ρ.g 0), .int .i8 (ρ.g 1), .int .i8 (ρ.g 2), .int .i8 (ρ.g 3), .int .i8 (ρ.g 4), .int .i8 (ρ.g 5), .int .i8 (ρ.g 6),
  .bool (ρ.r 0).va, .int .u32 (ρ.r 0).sq, .int .u8 (ρ.r 0).st, .int .u32 (ρ.r 0).da, .int .u8 (ρ.r 0).re, .int .u8 (ρ.r 0).ca,
  .bool (ρ.r 1).va, .int .u32 (ρ.r 1).sq, .int .u8 (ρ.r 1).st, .int .u32 (ρ.r 1).da, .int .u8 (ρ.r 1).re, .int .u8 (ρ.r 1).ca,
  .bool (ρ.r 2).va, .int .u32 (ρ.r 2).sq, .int .u8 (ρ.r 2).st, .int .u32 (ρ.r 2).da, .int .u8 (ρ.r 2).re, .int .u8 (ρ.r 2).ca,
  .int .u8 (bitsV ρ.rs), .int .u8 (bitsV ρ.rp)] := by kernel_rfl
theorem encR_zero : encR rep0 = #[.int .i8 0, .int .i8 0, .int .i8 0, .int .i8 0, .int .i8 0, .int .i8 0, .int .i8 0,
  .bool false, .int .u32 0, .int .u8 0, .int .u32 0, .int .u8 0, .int .u8 0,
  .bool false, .int .u32 0, .int .u8 0, .int .u32 0, .int .u8 0, .int .u8 0,
  .bool false, .int .u32 0, .int .u8 0, .int .u32 0, .int .u8 0, .int .u8 0,
  .int .u8 0, .int .u8 0] := rfl
theorem encR_size (ρ : RepD) : (encR ρ).size = 27 := by simp [encR, row]
theorem Tryd.size41 : (Tryd.prog.info? 41).map (·.size) = some 27 := by kernel_rfl
def tick1 (σ : SS) : SS × RepD := collectN 7 (σ, rep0)
def tick2 (p : Int) (σ : SS) : SS × RepD := arbN (wantsF (tick1 σ).1.x) p 7 (tick1 σ)
def tick3 (p : Int) (σ : SS) : XS × RepD := handN 3 ((tick2 p σ).1.x, (tick2 p σ).2)
def tickF (p : Int) (σ : SS) : SS × RepD := ({ (tick2 p σ).1 with x := (tick3 p σ).1 }, (tick3 p σ).2)
structure TickOK (p : Int) (σ : SS) : Prop where
  p0 : 0 ≤ p
  p1 : p < 4294967296
  col : ∀ k, k < 7 → ColOK k (collectN k (σ, rep0)).1
  arb0 : ∀ m, m < 3 → 0 ≤ ((tick1 σ).1.x.mp m).gr ∧ (∀ s, s < 4 → 0 ≤ (((tick1 σ).1.x.mp m).sl s).req.ad ∧ (((tick1 σ).1.x.mp m).sl s).req.ad < 4294967296)
  arb : ∀ k, k < 7 → ArbOK k (arbN (wantsF (tick1 σ).1.x) p k (tick1 σ)).1
  hand : ∀ m, m < 3 → 0 ≤ ((tick2 p σ).1.x.mp m).rt ∧ ((tick2 p σ).1.x.mp m).rt < 4294967295
set_option maxRecDepth 100000 in
set_option maxHeartbeats 4000000 in
theorem xtick_any (own : Nat → Nat) (xb : Nat) (pbs : Nat → Nat) (σ : SS) (p : Int) (w : World) (h : XRep own w xb pbs σ) (hg : Glb own w) (hok : TickOK p σ) :
    Calls Tryd.prog 33 #[.pointer (some ⟨xb, 0, none⟩), .int .u32 p] w fun e w' => e = .returned (.agg (encR (tickF p σ).2)) ∧ ∃ own', XRep own' w' xb pbs (tickF p σ).1 ∧ Ext own own' (fun k => k ≤ 6 ∨ k = 49) w w' := by
  have HG := hid_of hg
  have H := hid_of h
  have HOK := hid_of hok
  have hlx := h.blk.lt
  clear hg h hok
  go_enter Tryd.func33, Tryd.ntmps33
  go_wp2_with fail
  rw [← encR_zero]
  obtain ⟨W, hW⟩ : ∃ W, (w.alloc (.cells (encR rep0) 41)).alloc (.cells (encR rep0) 41) = W := ⟨_, rfl⟩
  have hx0 : Ext own (mark (mark own w.heap.size 50) (w.heap.size + 1) 49) (fun _ => False) w W := by
    rw [← hW]
    have h1 := Ext.alloc own (fun _ => False) w (.cells (encR rep0) 41) 50
    have h2 := Ext.alloc (mark own w.heap.size 50) (fun _ => False) (w.alloc (.cells (encR rep0) 41)) (.cells (encR rep0) 41) 49
    simp only [World.size_alloc] at h2
    exact h1.trans h2
  have hB0 : Blk W w.heap.size (encR rep0) 41 := by rw [← hW]; exact (Blk.new w _ _).alloc _
  have hB1 : Blk W (w.heap.size + 1) (encR rep0) 41 := by
    rw [← hW]; have := Blk.new (w.alloc (.cells (encR rep0) 41)) (encR rep0) 41
    simp only [World.size_alloc] at this
    exact this
  have hlW : w.heap.size + 2 = W.heap.size := by rw [← hW]; simp
  rw [hW]
  have hG0 := hid_of (HG.out.ext hx0 (fun h => h))
  have hX0 := hid_of (H.out.ext hx0 (fun _ _ h => h))
  have ho1 : mark (mark own w.heap.size 50) (w.heap.size + 1) 49 (w.heap.size + 1) = 49 := mark_ge (Nat.le_refl _)
  have ho0 : mark (mark own w.heap.size 50) (w.heap.size + 1) 49 w.heap.size = 50 := (mark_lt (Nat.lt_succ_self _)).trans (mark_ge (Nat.le_refl _))
  have HE0 := hid_of hx0
  clear hW hx0 H HG
  generalize mark (mark own w.heap.size 50) (w.heap.size + 1) 49 = own0 at *
  refine (collect_any own0 xb (w.heap.size + 1) pbs σ rep0 W hX0.out hB1 ho1 HOK.out.col).mono ?_
  rintro e w1 ⟨rfl, own1, h1, hr1, hx1⟩
  have hg1 := hid_of (hG0.out.ext hx1 (by omega))
  have hb1 : Blk w1 w.heap.size (encR rep0) 41 := hB0.ext hx1 (by rw [ho0]; omega)
  have ho11 : own1 (w.heap.size + 1) = 49 := (hx1.keep _ (by omega)).trans ho1
  have ho10 : own1 w.heap.size = 50 := (hx1.keep _ (by omega)).trans ho0
  have HE1 := hid_of (hx1)
  have H1 := hid_of h1
  have HR1 := hid_of hr1
  have HB1 := hid_of hb1
  have hsz1 := hx1.size
  clear hx1 h1 hr1 hb1 hB0 hB1 hX0 hG0
  go_wp2_with fail
  refine (arbitrate_any own1 xb (w.heap.size + 1) pbs (tick1 σ).1 (tick1 σ).2 p w1 H1.out HR1.out ho11 hg1.out HOK.out.p0 HOK.out.p1 HOK.out.arb0 HOK.out.arb).mono ?_
  rintro e w2 ⟨rfl, own2, h2, hr2, hx2⟩
  have hb2 : Blk w2 w.heap.size (encR rep0) 41 := HB1.out.ext hx2 (by rw [ho10]; omega)
  have ho21 : own2 (w.heap.size + 1) = 49 := (hx2.keep _ (by omega)).trans ho11
  have ho20 : own2 w.heap.size = 50 := (hx2.keep _ (by omega)).trans ho10
  have HE2 := hid_of (hx2)
  have H2 := hid_of h2
  have hsz2 := hx2.size
  have hox := h2.oxb
  have hne : w.heap.size + 1 ≠ xb := fun e => by rw [e] at ho21; omega
  have hne0 : w.heap.size ≠ xb := fun e => by rw [e] at ho20; omega
  have hbx := h2.blk
  obtain ⟨w3, rfl, hl3⟩ := hbx.out
  have hr3 : Blk w3 (w.heap.size + 1) (encR (tick2 p σ).2) 41 := (put_heap_ne w3 xb _ _ _ hne).symm.trans hr2
  have hb3 : Blk w3 w.heap.size (encR rep0) 41 := (put_heap_ne w3 xb _ _ _ hne0).symm.trans hb2
  obtain ⟨w4, rfl, hl4⟩ := hr3.out
  have hb4 : Blk w4 w.heap.size (encR rep0) 41 := (put_heap_ne w4 (w.heap.size + 1) _ _ _ (by omega)).symm.trans hb3
  rw [put_size] at hl3
  clear hx2 h2 hr2 hb2 hbx hr3 hb3
  go_wp2_with fail
  refine (handBack_any (lk pbs) xb (w.heap.size + 1) (tick2 p σ).1.x (tick2 p σ).2 w4 hne hl3 hl4 HOK.out.hand).mono ?_
  rintro e w5 ⟨rfl, n, rfl⟩
  obtain ⟨b1, b2⟩ := H2.out.both ho21 (by omega) hne (encR (tick3 p σ).2) (tick3 p σ).1
  have B1 := hid_of b1
  have B2 := hid_of b2
  clear b1 b2
  have e3 : handN 3 ((tick2 p σ).1.x, (tick2 p σ).2) = tick3 p σ := rfl
  rw [e3]
  have hbb : Blk ((put (put w4 (w.heap.size + 1) (encR (tick3 p σ).2) 41) xb (encX (lk pbs) (tick3 p σ).1) 132).drewN n) (w.heap.size + 1) (encR (tick3 p σ).2) 41 := (Blk.put_same hl4).put_ne hne
  have hb0 : Blk ((put (put w4 (w.heap.size + 1) (encR (tick3 p σ).2) 41) xb (encX (lk pbs) (tick3 p σ).1) 132).drewN n) w.heap.size (encR rep0) 41 := (hb4.put_ne (by omega)).put_ne hne0
  have hsz := encR_size (tick3 p σ).2
  have h1c : (encR (tick3 p σ).2).all (·.oneCell') = true := by rw [encR_lit]; simp [Value.oneCell']
  have HW9 : Hid (∃ W9, W9 = ((put (put w4 (w.heap.size + 1) (encR (tick3 p σ).2) 41) xb (encX (lk pbs) (tick3 p σ).1) 132).drewN n)) := ⟨_, rfl⟩
  obtain ⟨W9, hW9⟩ := HW9.out
  rw [← hW9] at hbb hb0 ⊢
  have HQ9 := hid_of hW9
  clear hW9 HW9
  go_upto_region 5 with fail
  refine wp_region_list ?_
  refine wpList_load_row (by rfl) 41 (.tmp 5) (by rfl) (w.heap.size + 1) (by rfl) 41 (encR (tick3 p σ).2) (0, 0) _ hbb Tryd.underlying41 rfl (by rw [Tryd.size41, hsz]) ?_
  refine wpList_store_row (by rfl) 41 (.tmp 4) (.tmp 13) (by rfl) w.heap.size (encR (tick3 p σ).2) (by rfl) (by rfl) 41 (encR rep0) hb0 (by rw [Tryd.size41, hsz]) (by rw [encR_size, hsz]) h1c ?_
  rw [setRow_put hb0]
  go_wp2_with fail
  refine bodyPost_ret (v := .agg (encR (tick3 p σ).2)) (results_cell_row (by rfl) _ _ w.heap.size 41 _ (0, 0) _ (by rfl) (Blk.put_same hb0.lt) Tryd.underlying41 rfl (by rw [Tryd.size41, hsz])) rfl ⟨rfl, own2, ?_, ?_⟩
  · have h9 : XRep own2 W9 xb pbs (tickF p σ).1 := by rw [HQ9.out]; exact B1.out.ext (Ext.drewN (Ext.refl _ (fun _ => False) _) n) (fun _ _ h => h)
    exact h9.ext (Ext.put (S := (· = 50)) ho20) (fun k hk e => by omega)
  · have h8 := ((HE0.out.mono (S' := fun k => k ≤ 6 ∨ k = 49) (fun _ h => h.elim)).trans (HE1.out.trans (HE2.out.trans B2.out))).drewN n
    rw [← HQ9.out] at h8
    exact h8.shut (Below.put (Below.refl _ _) (Nat.le_refl _) _ _)
end Go.Proofs.Qxb6500750aDoor
