import Derived.Test.Qxb6500749aSta
import Derived.LoopN
namespace Go.Proofs.Qxb6500749a
open Go.RowKit
attribute [local go_sem] put_size put_cell_same put_cell_ne put_frozen_same put_frozen_ne put_setCell_same put_setCell_ne put_drew
attribute [local go_sem] drewN_setCell drewN_alloc drewN_put
set_option linter.unusedVariables false in
set_option maxRecDepth 100000 in
set_option maxHeartbeats 4000000 in
theorem st_5d (own : Nat → Nat) (L : LY) (R : RG) (hR : ROk R) (hrun : R.run = false) (a b c d e : Int) (ha : W32 a) (hb : W32 b) (hc : W32 c) (hd : W32 d) (he : W32 e) (hm : mapF a = true) (hm2 : mapF ((a + 12) % 4294967296) = true) (w : World) (h : RR own w L R) :
    Calls Try.prog 36 #[.pointer (some ⟨L.rg, 0, none⟩), .agg #[.int .u8 5, .int .u32 a, .int .u32 b, .int .u32 c, .int .u32 d, .int .u32 e]] w fun e' w' => (∃ z, e' = .returned (.bool z)) ∧ ∃ own' L', RR own' w' L' (descR R a b c d e) ∧ Ext own own' (fun k => k ≤ 18) w w' ∧ L'.rg = L.rg := by
  have c20 : w.cell? ⟨L.rg, 20, none⟩ = some (.pointer none) := by
    have h9 : w.cell? ⟨L.rg, 20, none⟩ = some (ptr R.run L.pb) := h.rg.1.cell 20
    rw [hrun] at h9
    exact h9
  obtain ⟨W, hW⟩ : ∃ W, w.alloc (.cells #[.int .u8 5, .int .u32 a, .int .u32 b, .int .u32 c, .int .u32 d, .int .u32 e] 73) = W := ⟨_, rfl⟩
  have hbe : Below w.heap.size w W := by rw [← hW]; exact (Below.refl _ _).alloc (Nat.le_refl _) _
  have hop : Blk W w.heap.size #[.int .u8 5, .int .u32 a, .int .u32 b, .int .u32 c, .int .u32 d, .int .u32 e] 73 := by rw [← hW]; exact Blk.new _ _ _
  have c20W : W.cell? ⟨L.rg, 20, none⟩ = some (.pointer none) := by rw [← hW]; exact ca1 _ _ _ _ c20
  have q0 : W.cell? ⟨w.heap.size, 0, none⟩ = some (.int .u8 5) := hop.cell 0
  have q1 : W.cell? ⟨w.heap.size, 1, none⟩ = some (.int .u32 a) := hop.cell 1
  have q2 : W.cell? ⟨w.heap.size, 2, none⟩ = some (.int .u32 b) := hop.cell 2
  have q3 : W.cell? ⟨w.heap.size, 3, none⟩ = some (.int .u32 c) := hop.cell 3
  have q4 : W.cell? ⟨w.heap.size, 4, none⟩ = some (.int .u32 d) := hop.cell 4
  have q5 : W.cell? ⟨w.heap.size, 5, none⟩ = some (.int .u32 e) := hop.cell 5
  have HW0 : Hid (RR own W L R) := h.below hbe
  have HX0 : Hid (Ext own own (fun k => k ≤ 18) w W) := Ext.of_below hbe
  have HOP := hid_of hop
  have HBE := hid_of hbe
  have HLT : Hid (L.rg < w.heap.size) := h.rg.1.lt
  have HOK := hid_of hR
  have HRUN := hid_of hrun
  have HH := hid_of h
  clear h hbe hop c20 hR hrun
  have HM := hid_of (mapped_any a ha W)
  rw [hm] at HM
  have HM2 := hid_of (mapped_any ((a + 12) % 4294967296) (W32.emod _) W)
  rw [hm2] at HM2
  have h40 : a < 4096 := by
    unfold mapF at hm
    simp only [Bool.and_eq_true, decide_eq_true_eq] at hm
    exact hm.1
  have HA : Hid (0 ≤ a ∧ a < 4096) := ⟨ha.1, h40⟩
  have n0 : a % 4294967296 = a := by have := ha.1; omega
  have n4 : (a + 4) % 4294967296 = a + 4 := by have := ha.1; omega
  have n8 : (a + 8) % 4294967296 = a + 8 := by have := ha.1; omega
  have n12 : (a + 12) % 4294967296 = a + 12 := by have := ha.1; omega
  obtain ⟨cr, hcr⟩ : ∃ cr, crcF b c d = cr := ⟨_, rfl⟩
  obtain ⟨s3, hs3⟩ : ∃ s3, (cr + e) % 4294967296 = s3 := ⟨_, rfl⟩
  have HDE : Hid (descR R a b c d e = { (pokR (pokR (pokR (pokR R a b) (a + 4) c) (a + 8) d) (a + 12) s3) with hd := true, desc := a }) := by unfold Hid descR; rw [hcr, hs3]
  rw [HDE.out]
  have HCR : Hid (∀ V : World, Blk V W.heap.size #[.int .u32 b, .int .u32 c, .int .u32 d] 30 → Calls Try.prog 45 #[.slice (some ⟨W.heap.size, 0, none⟩) 3 3] V fun e' w' => e' = .returned (.int .u32 cr) ∧ w' = V) := fun V hV => by
    rw [← hcr]
    exact crc_any W.heap.size 3 b c d hb hc hd V (hV.cell 0) (hV.cell 1) (hV.cell 2)
  rw [n12] at HM2
  obtain ⟨own0, hown0⟩ : ∃ own0, mark own w.heap.size 50 = own0 := ⟨_, rfl⟩
  have HX1 : Hid (Ext own own0 (fun k => k ≤ 18) w W) := by rw [← hown0, ← hW]; exact Ext.alloc own _ w _ 50
  have HW1 : Hid (RR own0 W L R) := by
    have x : Ext own own0 (fun _ => False) w W := by rw [← hown0, ← hW]; exact Ext.alloc own _ w _ 50
    exact HH.out.ext x (fun _ _ q => q)
  have HOM : Hid (own0 w.heap.size = 50) := by rw [← hown0]; exact mark_ge (Nat.le_refl _)
  have HSC : Hid (Blk (W.drew.alloc (.cells #[.int .u32 b, .int .u32 c, .int .u32 d] 30)) W.heap.size #[.int .u32 b, .int .u32 c, .int .u32 d] 30) := Blk.new W.drew _ _
  have HR0 : Hid (RR own0 (W.drew.alloc (.cells #[.int .u32 b, .int .u32 c, .int .u32 d] 30)) L R ∧ Ext own own0 (fun k => k ≤ 18) w (W.drew.alloc (.cells #[.int .u32 b, .int .u32 c, .int .u32 d] 30)) ∧ Blk (W.drew.alloc (.cells #[.int .u32 b, .int .u32 c, .int .u32 d] 30)) w.heap.size #[.int .u8 5, .int .u32 a, .int .u32 b, .int .u32 c, .int .u32 d, .int .u32 e] 73) :=
    ⟨HW1.out.drew.below ((Below.refl _ _).alloc (Nat.le_refl _) _), HX1.out.drew.trans (Ext.alloc' _ _ _ _), (HOP.out : Blk W.drew _ _ _).alloc _⟩
  clear hcr hm hm2 h40 hown0 HW0 HX0 HW1 HX1 HH HDE
  go_enter Try.func36, Try.ntmps36
  go_wp2_with fail
  clear hW
  refine HM.out.mono ?_
  rintro e' w1 ⟨rfl, hw1⟩
  obtain rfl := hw1.symm
  clear HM
  go_wp2_with fail
  refine HM2.out.mono ?_
  rintro e' w1 ⟨rfl, hw1⟩
  obtain rfl := hw1.symm
  clear HM2
  go_upto_region 34 with fail
  clear q0 q1 q2 q3 q4 q5 c20W
  refine wp_region_float [0, 1, 2, 3, 4, 5, 6, 7, 8, 9, 10, 11, 14, 15, 18] [12, 13, 16, 17] [0, 2, 4, 6, 8, 10, 14, 18] mixed (fun ω => Blk ω w.heap.size #[.int .u8 5, .int .u32 a, .int .u32 b, .int .u32 c, .int .u32 d, .int .u32 e] 73) (by kernel_rfl) rfl (by kernel_rfl) HOP.out ?_
  iterate 15 refine wpFl_op _ _ _ _ rfl rfl (fun ω hj => by
    first
    | (go_simp; rfl)
    | (have j2 : ω.cell? ⟨w.heap.size, 2, none⟩ = some (.int .u32 b) := (hj rfl).cell 2
       have j3 : ω.cell? ⟨w.heap.size, 3, none⟩ = some (.int .u32 c) := (hj rfl).cell 3
       have j4 : ω.cell? ⟨w.heap.size, 4, none⟩ = some (.int .u32 d) := (hj rfl).cell 4
       have j5 : ω.cell? ⟨w.heap.size, 5, none⟩ = some (.int .u32 e) := (hj rfl).cell 5
       go_simp; rfl)) ?_
  refine wpFl_nil _ _ ?_
  simp only [Act.put, List.setIfInBounds_toArray]
  refine wpCh_one _ _ _ _ rfl ?_
  go_wp2_with fail
  refine ⟨HR0.out.2.2, ?_⟩
  refine wpCh_one _ _ _ _ rfl ?_
  go_wp2_with fail
  refine (HCR.out _ HSC.out).mono ?_
  rintro e' w1 ⟨rfl, hw1⟩
  obtain rfl := hw1.symm
  clear hw1
  go_wp2_with fail
  refine ⟨HR0.out.2.2, ?_⟩
  refine wpCh_one _ _ _ _ rfl ?_
  go_wp2_with fail
  refine ⟨HR0.out.2.2, ?_⟩
  refine wpCh_rest _ _ _ _ [_] _ _ rfl (by kernel_rfl) ?_
  simp only [List.getElem_toArray, List.getElem_cons_succ, List.getElem_cons_zero]
  go_wp2_with fail
  obtain ⟨v0, hv0⟩ : ∃ v0, W.drew.alloc (.cells #[.int .u32 b, .int .u32 c, .int .u32 d] 30) = v0 := ⟨_, rfl⟩
  have hv0' : (W.alloc (.cells #[.int .u32 b, .int .u32 c, .int .u32 d] 30)).drew = v0 := hv0
  rw [hv0] at HR0
  try rw [hv0]
  try rw [hv0']
  clear hv0 hv0' HSC
  refine wp_loop_rounds 5 ?_
  rw [rounds_succ]
  have HPK := hid_of (rpoke_any own0 L R (a) b (by have := HA.out; refine ⟨?_, ?_⟩ <;> omega) v0 HR0.out.1)
  have o1 : v0.cell? ⟨w.heap.size, 1, none⟩ = some (.int .u32 a) := HR0.out.2.2.cell 1
  have ix := idx0 b c d s3 v0
  go_wp2_with fail
  clear ix
  refine HPK.out.mono ?_
  rintro e' v1 ⟨rfl, h1, h2⟩
  have HR1 : Hid (RR own0 v1 L (pokR R a b) ∧ Ext own own0 (fun k => k ≤ 18) w v1 ∧ Blk v1 w.heap.size #[.int .u8 5, .int .u32 a, .int .u32 b, .int .u32 c, .int .u32 d, .int .u32 e] 73) := ⟨h1, HR0.out.2.1.trans h2, HR0.out.2.2.fr h2.fr (by rw [HOM.out]; decide)⟩
  clear HPK h1 h2 o1 HR0
  go_wp2_with fail
  rw [rounds_succ]
  have HPK := hid_of (rpoke_any own0 L (pokR R a b) (a + 4) c (by have := HA.out; refine ⟨?_, ?_⟩ <;> omega) v1 HR1.out.1)
  have o1 : v1.cell? ⟨w.heap.size, 1, none⟩ = some (.int .u32 a) := HR1.out.2.2.cell 1
  have ix := idx1 b c d s3 v1
  go_wp2_with fail
  clear ix
  refine HPK.out.mono ?_
  rintro e' v2 ⟨rfl, h1, h2⟩
  have HR2 : Hid (RR own0 v2 L (pokR (pokR R a b) (a + 4) c) ∧ Ext own own0 (fun k => k ≤ 18) w v2 ∧ Blk v2 w.heap.size #[.int .u8 5, .int .u32 a, .int .u32 b, .int .u32 c, .int .u32 d, .int .u32 e] 73) := ⟨h1, HR1.out.2.1.trans h2, HR1.out.2.2.fr h2.fr (by rw [HOM.out]; decide)⟩
  clear HPK h1 h2 o1 HR1
  go_wp2_with fail
  rw [rounds_succ]
  have HPK := hid_of (rpoke_any own0 L (pokR (pokR R a b) (a + 4) c) (a + 8) d (by have := HA.out; refine ⟨?_, ?_⟩ <;> omega) v2 HR2.out.1)
  have o1 : v2.cell? ⟨w.heap.size, 1, none⟩ = some (.int .u32 a) := HR2.out.2.2.cell 1
  have ix := idx2 b c d s3 v2
  go_wp2_with fail
  clear ix
  refine HPK.out.mono ?_
  rintro e' v3 ⟨rfl, h1, h2⟩
  have HR3 : Hid (RR own0 v3 L (pokR (pokR (pokR R a b) (a + 4) c) (a + 8) d) ∧ Ext own own0 (fun k => k ≤ 18) w v3 ∧ Blk v3 w.heap.size #[.int .u8 5, .int .u32 a, .int .u32 b, .int .u32 c, .int .u32 d, .int .u32 e] 73) := ⟨h1, HR2.out.2.1.trans h2, HR2.out.2.2.fr h2.fr (by rw [HOM.out]; decide)⟩
  clear HPK h1 h2 o1 HR2
  go_wp2_with fail
  rw [rounds_succ]
  have HPK := hid_of (rpoke_any own0 L (pokR (pokR (pokR R a b) (a + 4) c) (a + 8) d) (a + 12) s3 (by have := HA.out; refine ⟨?_, ?_⟩ <;> omega) v3 HR3.out.1)
  have o1 : v3.cell? ⟨w.heap.size, 1, none⟩ = some (.int .u32 a) := HR3.out.2.2.cell 1
  have ix := idx3 b c d s3 v3
  go_wp2_with fail
  clear ix
  refine HPK.out.mono ?_
  rintro e' v4 ⟨rfl, h1, h2⟩
  have HR4 : Hid (RR own0 v4 L (pokR (pokR (pokR (pokR R a b) (a + 4) c) (a + 8) d) (a + 12) s3) ∧ Ext own own0 (fun k => k ≤ 18) w v4 ∧ Blk v4 w.heap.size #[.int .u8 5, .int .u32 a, .int .u32 b, .int .u32 c, .int .u32 d, .int .u32 e] 73) := ⟨h1, HR3.out.2.1.trans h2, HR3.out.2.2.fr h2.fr (by rw [HOM.out]; decide)⟩
  clear HPK h1 h2 o1 HR3
  go_wp2_with fail
  rw [rounds_succ]
  go_upto_region 39 with fail
  obtain ⟨u3, hu3, hl3⟩ := HR4.out.1.rg.1.out
  have hne : w.heap.size ≠ L.rg := HR4.out.2.2.neT HR4.out.1.rg.1 (by decide)
  have hu3' : v4 = put u3 L.rg #[L.pv, .map (some L.img), .pointer (some ⟨L.ubP, 0, none⟩), .pointer (some ⟨L.ubD, 0, none⟩), .bool (pokR (pokR (pokR (pokR R a b) (a + 4) c) (a + 8) d) (a + 12) s3).hc, .bool (pokR (pokR (pokR (pokR R a b) (a + 4) c) (a + 8) d) (a + 12) s3).ho, .int .u32 (pokR (pokR (pokR (pokR R a b) (a + 4) c) (a + 8) d) (a + 12) s3).fc.site, .int .u32 ((pokR (pokR (pokR (pokR R a b) (a + 4) c) (a + 8) d) (a + 12) s3).fc.bit : Nat), .int .u32 (pokR (pokR (pokR (pokR R a b) (a + 4) c) (a + 8) d) (a + 12) s3).fc.cyc, .int .u32 (pokR (pokR (pokR (pokR R a b) (a + 4) c) (a + 8) d) (a + 12) s3).fc.dur, .int .u8 (pokR (pokR (pokR (pokR R a b) (a + 4) c) (a + 8) d) (a + 12) s3).fc.kind, .int .u32 (pokR (pokR (pokR (pokR R a b) (a + 4) c) (a + 8) d) (a + 12) s3).fo.site, .int .u32 ((pokR (pokR (pokR (pokR R a b) (a + 4) c) (a + 8) d) (a + 12) s3).fo.bit : Nat), .int .u32 (pokR (pokR (pokR (pokR R a b) (a + 4) c) (a + 8) d) (a + 12) s3).fo.cyc, .int .u32 (pokR (pokR (pokR (pokR R a b) (a + 4) c) (a + 8) d) (a + 12) s3).fo.dur, .int .u8 (pokR (pokR (pokR (pokR R a b) (a + 4) c) (a + 8) d) (a + 12) s3).fo.kind, .bool (pokR (pokR (pokR (pokR R a b) (a + 4) c) (a + 8) d) (a + 12) s3).kc, .bool (pokR (pokR (pokR (pokR R a b) (a + 4) c) (a + 8) d) (a + 12) s3).ko, .bool (pokR (pokR (pokR (pokR R a b) (a + 4) c) (a + 8) d) (a + 12) s3).hd, .int .u32 (pokR (pokR (pokR (pokR R a b) (a + 4) c) (a + 8) d) (a + 12) s3).desc, .pointer none, .pointer none, L.rv] 38 := by
    rw [hu3]
    unfold rigV ptr
    rw [show (pokR (pokR (pokR (pokR R a b) (a + 4) c) (a + 8) d) (a + 12) s3).run = false from HRUN.out]
    rfl
  have HREP : Hid (RR own0 (put u3 L.rg #[L.pv, .map (some L.img), .pointer (some ⟨L.ubP, 0, none⟩), .pointer (some ⟨L.ubD, 0, none⟩), .bool (pokR (pokR (pokR (pokR R a b) (a + 4) c) (a + 8) d) (a + 12) s3).hc, .bool (pokR (pokR (pokR (pokR R a b) (a + 4) c) (a + 8) d) (a + 12) s3).ho, .int .u32 (pokR (pokR (pokR (pokR R a b) (a + 4) c) (a + 8) d) (a + 12) s3).fc.site, .int .u32 ((pokR (pokR (pokR (pokR R a b) (a + 4) c) (a + 8) d) (a + 12) s3).fc.bit : Nat), .int .u32 (pokR (pokR (pokR (pokR R a b) (a + 4) c) (a + 8) d) (a + 12) s3).fc.cyc, .int .u32 (pokR (pokR (pokR (pokR R a b) (a + 4) c) (a + 8) d) (a + 12) s3).fc.dur, .int .u8 (pokR (pokR (pokR (pokR R a b) (a + 4) c) (a + 8) d) (a + 12) s3).fc.kind, .int .u32 (pokR (pokR (pokR (pokR R a b) (a + 4) c) (a + 8) d) (a + 12) s3).fo.site, .int .u32 ((pokR (pokR (pokR (pokR R a b) (a + 4) c) (a + 8) d) (a + 12) s3).fo.bit : Nat), .int .u32 (pokR (pokR (pokR (pokR R a b) (a + 4) c) (a + 8) d) (a + 12) s3).fo.cyc, .int .u32 (pokR (pokR (pokR (pokR R a b) (a + 4) c) (a + 8) d) (a + 12) s3).fo.dur, .int .u8 (pokR (pokR (pokR (pokR R a b) (a + 4) c) (a + 8) d) (a + 12) s3).fo.kind, .bool (pokR (pokR (pokR (pokR R a b) (a + 4) c) (a + 8) d) (a + 12) s3).kc, .bool (pokR (pokR (pokR (pokR R a b) (a + 4) c) (a + 8) d) (a + 12) s3).ko, .bool true, .int .u32 a, .pointer none, .pointer none, L.rv] 38) L { (pokR (pokR (pokR (pokR R a b) (a + 4) c) (a + 8) d) (a + 12) s3) with hd := true, desc := a } ∧ Ext own0 own0 (fun k => k ≤ 18) v4 (put u3 L.rg #[L.pv, .map (some L.img), .pointer (some ⟨L.ubP, 0, none⟩), .pointer (some ⟨L.ubD, 0, none⟩), .bool (pokR (pokR (pokR (pokR R a b) (a + 4) c) (a + 8) d) (a + 12) s3).hc, .bool (pokR (pokR (pokR (pokR R a b) (a + 4) c) (a + 8) d) (a + 12) s3).ho, .int .u32 (pokR (pokR (pokR (pokR R a b) (a + 4) c) (a + 8) d) (a + 12) s3).fc.site, .int .u32 ((pokR (pokR (pokR (pokR R a b) (a + 4) c) (a + 8) d) (a + 12) s3).fc.bit : Nat), .int .u32 (pokR (pokR (pokR (pokR R a b) (a + 4) c) (a + 8) d) (a + 12) s3).fc.cyc, .int .u32 (pokR (pokR (pokR (pokR R a b) (a + 4) c) (a + 8) d) (a + 12) s3).fc.dur, .int .u8 (pokR (pokR (pokR (pokR R a b) (a + 4) c) (a + 8) d) (a + 12) s3).fc.kind, .int .u32 (pokR (pokR (pokR (pokR R a b) (a + 4) c) (a + 8) d) (a + 12) s3).fo.site, .int .u32 ((pokR (pokR (pokR (pokR R a b) (a + 4) c) (a + 8) d) (a + 12) s3).fo.bit : Nat), .int .u32 (pokR (pokR (pokR (pokR R a b) (a + 4) c) (a + 8) d) (a + 12) s3).fo.cyc, .int .u32 (pokR (pokR (pokR (pokR R a b) (a + 4) c) (a + 8) d) (a + 12) s3).fo.dur, .int .u8 (pokR (pokR (pokR (pokR R a b) (a + 4) c) (a + 8) d) (a + 12) s3).fo.kind, .bool (pokR (pokR (pokR (pokR R a b) (a + 4) c) (a + 8) d) (a + 12) s3).kc, .bool (pokR (pokR (pokR (pokR R a b) (a + 4) c) (a + 8) d) (a + 12) s3).ko, .bool true, .int .u32 a, .pointer none, .pointer none, L.rv] 38)) := by
    have k := HR4.out.1.row (R' := { (pokR (pokR (pokR (pokR R a b) (a + 4) c) (a + 8) d) (a + 12) s3) with hd := true, desc := a }) rfl
    have e1 : rigV L { (pokR (pokR (pokR (pokR R a b) (a + 4) c) (a + 8) d) (a + 12) s3) with hd := true, desc := a } = #[L.pv, .map (some L.img), .pointer (some ⟨L.ubP, 0, none⟩), .pointer (some ⟨L.ubD, 0, none⟩), .bool (pokR (pokR (pokR (pokR R a b) (a + 4) c) (a + 8) d) (a + 12) s3).hc, .bool (pokR (pokR (pokR (pokR R a b) (a + 4) c) (a + 8) d) (a + 12) s3).ho, .int .u32 (pokR (pokR (pokR (pokR R a b) (a + 4) c) (a + 8) d) (a + 12) s3).fc.site, .int .u32 ((pokR (pokR (pokR (pokR R a b) (a + 4) c) (a + 8) d) (a + 12) s3).fc.bit : Nat), .int .u32 (pokR (pokR (pokR (pokR R a b) (a + 4) c) (a + 8) d) (a + 12) s3).fc.cyc, .int .u32 (pokR (pokR (pokR (pokR R a b) (a + 4) c) (a + 8) d) (a + 12) s3).fc.dur, .int .u8 (pokR (pokR (pokR (pokR R a b) (a + 4) c) (a + 8) d) (a + 12) s3).fc.kind, .int .u32 (pokR (pokR (pokR (pokR R a b) (a + 4) c) (a + 8) d) (a + 12) s3).fo.site, .int .u32 ((pokR (pokR (pokR (pokR R a b) (a + 4) c) (a + 8) d) (a + 12) s3).fo.bit : Nat), .int .u32 (pokR (pokR (pokR (pokR R a b) (a + 4) c) (a + 8) d) (a + 12) s3).fo.cyc, .int .u32 (pokR (pokR (pokR (pokR R a b) (a + 4) c) (a + 8) d) (a + 12) s3).fo.dur, .int .u8 (pokR (pokR (pokR (pokR R a b) (a + 4) c) (a + 8) d) (a + 12) s3).fo.kind, .bool (pokR (pokR (pokR (pokR R a b) (a + 4) c) (a + 8) d) (a + 12) s3).kc, .bool (pokR (pokR (pokR (pokR R a b) (a + 4) c) (a + 8) d) (a + 12) s3).ko, .bool true, .int .u32 a, .pointer none, .pointer none, L.rv] := by
      unfold rigV ptr
      rw [show ({ (pokR (pokR (pokR (pokR R a b) (a + 4) c) (a + 8) d) (a + 12) s3) with hd := true, desc := a } : RG).run = false from HRUN.out]
      rfl
    rw [e1] at k
    refine ⟨?_, ?_⟩
    · have k1 := k.1; rw [hu3, put_put] at k1; exact k1
    · have k2 := k.2
      have e3 : put v4 L.rg #[L.pv, .map (some L.img), .pointer (some ⟨L.ubP, 0, none⟩), .pointer (some ⟨L.ubD, 0, none⟩), .bool (pokR (pokR (pokR (pokR R a b) (a + 4) c) (a + 8) d) (a + 12) s3).hc, .bool (pokR (pokR (pokR (pokR R a b) (a + 4) c) (a + 8) d) (a + 12) s3).ho, .int .u32 (pokR (pokR (pokR (pokR R a b) (a + 4) c) (a + 8) d) (a + 12) s3).fc.site, .int .u32 ((pokR (pokR (pokR (pokR R a b) (a + 4) c) (a + 8) d) (a + 12) s3).fc.bit : Nat), .int .u32 (pokR (pokR (pokR (pokR R a b) (a + 4) c) (a + 8) d) (a + 12) s3).fc.cyc, .int .u32 (pokR (pokR (pokR (pokR R a b) (a + 4) c) (a + 8) d) (a + 12) s3).fc.dur, .int .u8 (pokR (pokR (pokR (pokR R a b) (a + 4) c) (a + 8) d) (a + 12) s3).fc.kind, .int .u32 (pokR (pokR (pokR (pokR R a b) (a + 4) c) (a + 8) d) (a + 12) s3).fo.site, .int .u32 ((pokR (pokR (pokR (pokR R a b) (a + 4) c) (a + 8) d) (a + 12) s3).fo.bit : Nat), .int .u32 (pokR (pokR (pokR (pokR R a b) (a + 4) c) (a + 8) d) (a + 12) s3).fo.cyc, .int .u32 (pokR (pokR (pokR (pokR R a b) (a + 4) c) (a + 8) d) (a + 12) s3).fo.dur, .int .u8 (pokR (pokR (pokR (pokR R a b) (a + 4) c) (a + 8) d) (a + 12) s3).fo.kind, .bool (pokR (pokR (pokR (pokR R a b) (a + 4) c) (a + 8) d) (a + 12) s3).kc, .bool (pokR (pokR (pokR (pokR R a b) (a + 4) c) (a + 8) d) (a + 12) s3).ko, .bool true, .int .u32 a, .pointer none, .pointer none, L.rv] 38 = put u3 L.rg #[L.pv, .map (some L.img), .pointer (some ⟨L.ubP, 0, none⟩), .pointer (some ⟨L.ubD, 0, none⟩), .bool (pokR (pokR (pokR (pokR R a b) (a + 4) c) (a + 8) d) (a + 12) s3).hc, .bool (pokR (pokR (pokR (pokR R a b) (a + 4) c) (a + 8) d) (a + 12) s3).ho, .int .u32 (pokR (pokR (pokR (pokR R a b) (a + 4) c) (a + 8) d) (a + 12) s3).fc.site, .int .u32 ((pokR (pokR (pokR (pokR R a b) (a + 4) c) (a + 8) d) (a + 12) s3).fc.bit : Nat), .int .u32 (pokR (pokR (pokR (pokR R a b) (a + 4) c) (a + 8) d) (a + 12) s3).fc.cyc, .int .u32 (pokR (pokR (pokR (pokR R a b) (a + 4) c) (a + 8) d) (a + 12) s3).fc.dur, .int .u8 (pokR (pokR (pokR (pokR R a b) (a + 4) c) (a + 8) d) (a + 12) s3).fc.kind, .int .u32 (pokR (pokR (pokR (pokR R a b) (a + 4) c) (a + 8) d) (a + 12) s3).fo.site, .int .u32 ((pokR (pokR (pokR (pokR R a b) (a + 4) c) (a + 8) d) (a + 12) s3).fo.bit : Nat), .int .u32 (pokR (pokR (pokR (pokR R a b) (a + 4) c) (a + 8) d) (a + 12) s3).fo.cyc, .int .u32 (pokR (pokR (pokR (pokR R a b) (a + 4) c) (a + 8) d) (a + 12) s3).fo.dur, .int .u8 (pokR (pokR (pokR (pokR R a b) (a + 4) c) (a + 8) d) (a + 12) s3).fo.kind, .bool (pokR (pokR (pokR (pokR R a b) (a + 4) c) (a + 8) d) (a + 12) s3).kc, .bool (pokR (pokR (pokR (pokR R a b) (a + 4) c) (a + 8) d) (a + 12) s3).ko, .bool true, .int .u32 a, .pointer none, .pointer none, L.rv] 38 := by rw [hu3, put_put]
      rw [e3] at k2
      exact k2
  have HJ1 : Hid (Blk (put u3 L.rg #[L.pv, .map (some L.img), .pointer (some ⟨L.ubP, 0, none⟩), .pointer (some ⟨L.ubD, 0, none⟩), .bool (pokR (pokR (pokR (pokR R a b) (a + 4) c) (a + 8) d) (a + 12) s3).hc, .bool (pokR (pokR (pokR (pokR R a b) (a + 4) c) (a + 8) d) (a + 12) s3).ho, .int .u32 (pokR (pokR (pokR (pokR R a b) (a + 4) c) (a + 8) d) (a + 12) s3).fc.site, .int .u32 ((pokR (pokR (pokR (pokR R a b) (a + 4) c) (a + 8) d) (a + 12) s3).fc.bit : Nat), .int .u32 (pokR (pokR (pokR (pokR R a b) (a + 4) c) (a + 8) d) (a + 12) s3).fc.cyc, .int .u32 (pokR (pokR (pokR (pokR R a b) (a + 4) c) (a + 8) d) (a + 12) s3).fc.dur, .int .u8 (pokR (pokR (pokR (pokR R a b) (a + 4) c) (a + 8) d) (a + 12) s3).fc.kind, .int .u32 (pokR (pokR (pokR (pokR R a b) (a + 4) c) (a + 8) d) (a + 12) s3).fo.site, .int .u32 ((pokR (pokR (pokR (pokR R a b) (a + 4) c) (a + 8) d) (a + 12) s3).fo.bit : Nat), .int .u32 (pokR (pokR (pokR (pokR R a b) (a + 4) c) (a + 8) d) (a + 12) s3).fo.cyc, .int .u32 (pokR (pokR (pokR (pokR R a b) (a + 4) c) (a + 8) d) (a + 12) s3).fo.dur, .int .u8 (pokR (pokR (pokR (pokR R a b) (a + 4) c) (a + 8) d) (a + 12) s3).fo.kind, .bool (pokR (pokR (pokR (pokR R a b) (a + 4) c) (a + 8) d) (a + 12) s3).kc, .bool (pokR (pokR (pokR (pokR R a b) (a + 4) c) (a + 8) d) (a + 12) s3).ko, .bool true, .int .u32 (pokR (pokR (pokR (pokR R a b) (a + 4) c) (a + 8) d) (a + 12) s3).desc, .pointer none, .pointer none, L.rv] 38).drew w.heap.size #[.int .u8 5, .int .u32 a, .int .u32 b, .int .u32 c, .int .u32 d, .int .u32 e] 73) := by
    have k := HR4.out.2.2.put_ne (b := L.rg) (cs := #[L.pv, .map (some L.img), .pointer (some ⟨L.ubP, 0, none⟩), .pointer (some ⟨L.ubD, 0, none⟩), .bool (pokR (pokR (pokR (pokR R a b) (a + 4) c) (a + 8) d) (a + 12) s3).hc, .bool (pokR (pokR (pokR (pokR R a b) (a + 4) c) (a + 8) d) (a + 12) s3).ho, .int .u32 (pokR (pokR (pokR (pokR R a b) (a + 4) c) (a + 8) d) (a + 12) s3).fc.site, .int .u32 ((pokR (pokR (pokR (pokR R a b) (a + 4) c) (a + 8) d) (a + 12) s3).fc.bit : Nat), .int .u32 (pokR (pokR (pokR (pokR R a b) (a + 4) c) (a + 8) d) (a + 12) s3).fc.cyc, .int .u32 (pokR (pokR (pokR (pokR R a b) (a + 4) c) (a + 8) d) (a + 12) s3).fc.dur, .int .u8 (pokR (pokR (pokR (pokR R a b) (a + 4) c) (a + 8) d) (a + 12) s3).fc.kind, .int .u32 (pokR (pokR (pokR (pokR R a b) (a + 4) c) (a + 8) d) (a + 12) s3).fo.site, .int .u32 ((pokR (pokR (pokR (pokR R a b) (a + 4) c) (a + 8) d) (a + 12) s3).fo.bit : Nat), .int .u32 (pokR (pokR (pokR (pokR R a b) (a + 4) c) (a + 8) d) (a + 12) s3).fo.cyc, .int .u32 (pokR (pokR (pokR (pokR R a b) (a + 4) c) (a + 8) d) (a + 12) s3).fo.dur, .int .u8 (pokR (pokR (pokR (pokR R a b) (a + 4) c) (a + 8) d) (a + 12) s3).fo.kind, .bool (pokR (pokR (pokR (pokR R a b) (a + 4) c) (a + 8) d) (a + 12) s3).kc, .bool (pokR (pokR (pokR (pokR R a b) (a + 4) c) (a + 8) d) (a + 12) s3).ko, .bool true, .int .u32 (pokR (pokR (pokR (pokR R a b) (a + 4) c) (a + 8) d) (a + 12) s3).desc, .pointer none, .pointer none, L.rv]) (T := 38) hne
    rw [hu3, put_put] at k
    exact k
  have HU3 := hid_of hu3'
  clear hu3 hu3'
  refine wp_region_float [0, 1, 2, 3, 4, 5] [6, 7, 8, 9] [0, 1, 2, 4, 5] mixed (fun ω => Blk ω w.heap.size #[.int .u8 5, .int .u32 a, .int .u32 b, .int .u32 c, .int .u32 d, .int .u32 e] 73) (by kernel_rfl) rfl (by kernel_rfl) HR4.out.2.2 ?_
  iterate 6 refine wpFl_op _ _ _ _ rfl rfl (fun ω hj => by
    first
    | (go_simp; rfl)
    | (have j1 : ω.cell? ⟨w.heap.size, 1, none⟩ = some (.int .u32 a) := (hj rfl).cell 1
       go_simp; rfl)) ?_
  refine wpFl_nil _ _ ?_
  simp only [Act.put, List.setIfInBounds_toArray]
  refine wpCh_one _ _ _ _ rfl ?_
  rw [HU3.out]
  go_wp2_with fail
  refine ⟨HJ1.out, ?_⟩
  refine wpCh_rest _ _ _ _ [_, _, _] _ _ rfl (by kernel_rfl) ?_
  simp only [List.getElem_toArray, List.getElem_cons_succ, List.getElem_cons_zero]
  go_wp2_with fail
  go_ret
  exact ⟨by first | exact ⟨_, rfl⟩ | exact .inl rfl, own0, L, HREP.out.1.drew, (HR4.out.2.1.trans HREP.out.2).drew, rfl⟩
end Go.Proofs.Qxb6500749a
