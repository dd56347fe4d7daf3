import Derived.Test.Qxb6500749aSta
import Derived.LoopN
namespace Go.Proofs.Qxb6500749a
open Go.RowKit
attribute [local go_sem] put_size put_cell_same put_cell_ne put_frozen_same put_frozen_ne put_setCell_same put_setCell_ne put_drew
attribute [local go_sem] drewN_setCell drewN_alloc drewN_put
set_option linter.unusedVariables false in
set_option maxRecDepth 100000 in
set_option maxHeartbeats 4000000 in
theorem st_2c (own : Nat → Nat) (L : LY) (R : RG) (hR : ROk R) (hrun : R.run = false) (a b c d e : Int) (ha : W32 a) (hb : W32 b) (hc : W32 c) (hd : W32 d) (he : W32 e) (h4 : ¬ e ≥ 4) (hcm : cmpS a = true) (hh : R.hc = false) (w : World) (h : RR own w L R) :
    Calls Try.prog 36 #[.pointer (some ⟨L.rg, 0, none⟩), .agg #[.int .u8 2, .int .u32 a, .int .u32 b, .int .u32 c, .int .u32 d, .int .u32 e]] w fun e' w' => (∃ z, e' = .returned (.bool z)) ∧ ∃ own' L', RR own' w' L' { R with hc := true, fc := ⟨a, b.toNat, c, d, e⟩ } ∧ Ext own own' (fun k => k ≤ 18) w w' ∧ L'.rg = L.rg := by
  have c20 : w.cell? ⟨L.rg, 20, none⟩ = some (.pointer none) := by
    have h9 : w.cell? ⟨L.rg, 20, none⟩ = some (ptr R.run L.pb) := h.rg.1.cell 20
    rw [hrun] at h9
    exact h9
  obtain ⟨W, hW⟩ : ∃ W, w.alloc (.cells #[.int .u8 2, .int .u32 a, .int .u32 b, .int .u32 c, .int .u32 d, .int .u32 e] 73) = W := ⟨_, rfl⟩
  have hbe : Below w.heap.size w W := by rw [← hW]; exact (Below.refl _ _).alloc (Nat.le_refl _) _
  have hop : Blk W w.heap.size #[.int .u8 2, .int .u32 a, .int .u32 b, .int .u32 c, .int .u32 d, .int .u32 e] 73 := by rw [← hW]; exact Blk.new _ _ _
  have c20W : W.cell? ⟨L.rg, 20, none⟩ = some (.pointer none) := by rw [← hW]; exact ca1 _ _ _ _ c20
  have q0 : W.cell? ⟨w.heap.size, 0, none⟩ = some (.int .u8 2) := hop.cell 0
  have q1 : W.cell? ⟨w.heap.size, 1, none⟩ = some (.int .u32 a) := hop.cell 1
  have q2 : W.cell? ⟨w.heap.size, 2, none⟩ = some (.int .u32 b) := hop.cell 2
  have q3 : W.cell? ⟨w.heap.size, 3, none⟩ = some (.int .u32 c) := hop.cell 3
  have q4 : W.cell? ⟨w.heap.size, 4, none⟩ = some (.int .u32 d) := hop.cell 4
  have q5 : W.cell? ⟨w.heap.size, 5, none⟩ = some (.int .u32 e) := hop.cell 5
  have HW0 : Hid (RR own W L R) := h.below hbe
  have HX0 : Hid (Ext own own (fun k => k ≤ 18) w W) := Ext.of_below hbe
  have HOP := hid_of hop
  have HBE := hid_of hbe
  have HLT : Hid (L.rg < w.heap.size) := h.rg.1.lt
  have HOK := hid_of hR
  have HRUN := hid_of hrun
  have HH := hid_of h
  clear h hbe hop c20 hR hrun
  have h4b : ¬ e ≥ 4 := h4
  have hcv : e % 256 = e := by have := he.1; omega
  have HCM := hid_of (fun V => isCmp_any a V)
  rw [hcm] at HCM
  obtain ⟨W2, hW2⟩ : ∃ W2, W.alloc (.cells #[.int .u32 a, .int .u32 b, .int .u32 c, .int .u32 d, .int .u8 e] 33) = W2 := ⟨_, rfl⟩
  have HR2 : Hid (RR own W2 L R) := by rw [← hW2]; exact HW0.out.below ((Below.refl _ _).alloc (Nat.le_refl _) _)
  have HX2 : Hid (Ext own own (fun k => k ≤ 18) w W2) := by rw [← hW2]; exact HX0.out.trans (Ext.alloc' _ _ _ _)
  have HF2 : Hid (Blk W2 W.heap.size #[.int .u32 a, .int .u32 b, .int .u32 c, .int .u32 d, .int .u8 e] 33) := by rw [← hW2]; exact Blk.new _ _ _
  have f0 : W2.cell? ⟨W.heap.size, 0, none⟩ = some (.int .u32 a) := HF2.out.cell 0
  have g4 : W2.cell? ⟨L.rg, 4, none⟩ = some (.bool false) := by
    have h9 : W2.cell? ⟨L.rg, 4, none⟩ = some (.bool R.hc) := HR2.out.rg.1.cell 4
    rw [hh] at h9
    exact h9
  clear hcm hh h4
  go_enter Try.func36, Try.ntmps36
  go_upto_region 17 with fail
  clear hW hW2 q0 q1 q2 q3 q4 q5 c20W
  refine wp_region_list ?_
  go_wp2_with fail
  refine (HCM.out W2).mono ?_
  rintro e' w1 ⟨rfl, hw1⟩
  obtain rfl := hw1.symm
  clear hw1
  go_upto_region 18 with fail
  obtain ⟨u3, hu3, hl3⟩ := HR2.out.rg.1.out
  have hne : W.heap.size ≠ L.rg := HF2.out.neT HR2.out.rg.1 (by decide)
  have hu3' : W2 = put u3 L.rg #[L.pv, .map (some L.img), .pointer (some ⟨L.ubP, 0, none⟩), .pointer (some ⟨L.ubD, 0, none⟩), .bool R.hc, .bool R.ho, .int .u32 R.fc.site, .int .u32 (R.fc.bit : Nat), .int .u32 R.fc.cyc, .int .u32 R.fc.dur, .int .u8 R.fc.kind, .int .u32 R.fo.site, .int .u32 (R.fo.bit : Nat), .int .u32 R.fo.cyc, .int .u32 R.fo.dur, .int .u8 R.fo.kind, .bool R.kc, .bool R.ko, .bool R.hd, .int .u32 R.desc, .pointer none, .pointer none, L.rv] 38 := by
    rw [hu3]
    unfold rigV ptr
    rw [HRUN.out]
    rfl
  have hbit : ((b.toNat : Nat) : Int) = b := Int.toNat_of_nonneg hb.1
  have HREP : Hid (RR own (put u3 L.rg #[L.pv, .map (some L.img), .pointer (some ⟨L.ubP, 0, none⟩), .pointer (some ⟨L.ubD, 0, none⟩), .bool true, .bool R.ho, .int .u32 a, .int .u32 b, .int .u32 c, .int .u32 d, .int .u8 e, .int .u32 R.fo.site, .int .u32 (R.fo.bit : Nat), .int .u32 R.fo.cyc, .int .u32 R.fo.dur, .int .u8 R.fo.kind, .bool R.kc, .bool R.ko, .bool R.hd, .int .u32 R.desc, .pointer none, .pointer none, L.rv] 38) L { R with hc := true, fc := ⟨a, b.toNat, c, d, e⟩ } ∧ Ext own own (fun k => k ≤ 18) W2 (put u3 L.rg #[L.pv, .map (some L.img), .pointer (some ⟨L.ubP, 0, none⟩), .pointer (some ⟨L.ubD, 0, none⟩), .bool true, .bool R.ho, .int .u32 a, .int .u32 b, .int .u32 c, .int .u32 d, .int .u8 e, .int .u32 R.fo.site, .int .u32 (R.fo.bit : Nat), .int .u32 R.fo.cyc, .int .u32 R.fo.dur, .int .u8 R.fo.kind, .bool R.kc, .bool R.ko, .bool R.hd, .int .u32 R.desc, .pointer none, .pointer none, L.rv] 38)) := by
    have k := HR2.out.row (R' := { R with hc := true, fc := ⟨a, b.toNat, c, d, e⟩ }) rfl
    have e1 : rigV L { R with hc := true, fc := ⟨a, b.toNat, c, d, e⟩ } = #[L.pv, .map (some L.img), .pointer (some ⟨L.ubP, 0, none⟩), .pointer (some ⟨L.ubD, 0, none⟩), .bool true, .bool R.ho, .int .u32 a, .int .u32 b, .int .u32 c, .int .u32 d, .int .u8 e, .int .u32 R.fo.site, .int .u32 (R.fo.bit : Nat), .int .u32 R.fo.cyc, .int .u32 R.fo.dur, .int .u8 R.fo.kind, .bool R.kc, .bool R.ko, .bool R.hd, .int .u32 R.desc, .pointer none, .pointer none, L.rv] := by
      unfold rigV ptr
      simp only [HRUN.out, hbit]
      rfl
    rw [e1] at k
    refine ⟨?_, ?_⟩
    · have k1 := k.1; rw [hu3, put_put] at k1; exact k1
    · have k2 := k.2
      have e3 : put W2 L.rg #[L.pv, .map (some L.img), .pointer (some ⟨L.ubP, 0, none⟩), .pointer (some ⟨L.ubD, 0, none⟩), .bool true, .bool R.ho, .int .u32 a, .int .u32 b, .int .u32 c, .int .u32 d, .int .u8 e, .int .u32 R.fo.site, .int .u32 (R.fo.bit : Nat), .int .u32 R.fo.cyc, .int .u32 R.fo.dur, .int .u8 R.fo.kind, .bool R.kc, .bool R.ko, .bool R.hd, .int .u32 R.desc, .pointer none, .pointer none, L.rv] 38 = put u3 L.rg #[L.pv, .map (some L.img), .pointer (some ⟨L.ubP, 0, none⟩), .pointer (some ⟨L.ubD, 0, none⟩), .bool true, .bool R.ho, .int .u32 a, .int .u32 b, .int .u32 c, .int .u32 d, .int .u8 e, .int .u32 R.fo.site, .int .u32 (R.fo.bit : Nat), .int .u32 R.fo.cyc, .int .u32 R.fo.dur, .int .u8 R.fo.kind, .bool R.kc, .bool R.ko, .bool R.hd, .int .u32 R.desc, .pointer none, .pointer none, L.rv] 38 := by rw [hu3, put_put]
      rw [e3] at k2
      exact k2
  have HJ1 : Hid (Blk (put u3 L.rg #[L.pv, .map (some L.img), .pointer (some ⟨L.ubP, 0, none⟩), .pointer (some ⟨L.ubD, 0, none⟩), .bool true, .bool R.ho, .int .u32 R.fc.site, .int .u32 (R.fc.bit : Nat), .int .u32 R.fc.cyc, .int .u32 R.fc.dur, .int .u8 R.fc.kind, .int .u32 R.fo.site, .int .u32 (R.fo.bit : Nat), .int .u32 R.fo.cyc, .int .u32 R.fo.dur, .int .u8 R.fo.kind, .bool R.kc, .bool R.ko, .bool R.hd, .int .u32 R.desc, .pointer none, .pointer none, L.rv] 38).drew W.heap.size #[.int .u32 a, .int .u32 b, .int .u32 c, .int .u32 d, .int .u8 e] 33) := by
    have k := HF2.out.put_ne (b := L.rg) (cs := #[L.pv, .map (some L.img), .pointer (some ⟨L.ubP, 0, none⟩), .pointer (some ⟨L.ubD, 0, none⟩), .bool true, .bool R.ho, .int .u32 R.fc.site, .int .u32 (R.fc.bit : Nat), .int .u32 R.fc.cyc, .int .u32 R.fc.dur, .int .u8 R.fc.kind, .int .u32 R.fo.site, .int .u32 (R.fo.bit : Nat), .int .u32 R.fo.cyc, .int .u32 R.fo.dur, .int .u8 R.fo.kind, .bool R.kc, .bool R.ko, .bool R.hd, .int .u32 R.desc, .pointer none, .pointer none, L.rv]) (T := 38) hne
    rw [hu3, put_put] at k
    exact k
  have HU3 := hid_of hu3'
  clear hu3 hu3' f0 g4
  refine wp_region_float [0, 1, 2, 3, 4] [5, 6, 7, 8] [0, 1, 3, 4] mixed (fun ω => Blk ω W.heap.size #[.int .u32 a, .int .u32 b, .int .u32 c, .int .u32 d, .int .u8 e] 33) (by kernel_rfl) rfl (by kernel_rfl) HF2.out ?_
  iterate 5 refine wpFl_op _ _ _ _ rfl rfl (fun ω hj => by
    first
    | (go_simp; rfl)
    | (have j0 : ω.cell? ⟨W.heap.size, 0, none⟩ = some (.int .u32 a) := (hj rfl).cell 0
       have j1 : ω.cell? ⟨W.heap.size, 1, none⟩ = some (.int .u32 b) := (hj rfl).cell 1
       have j2 : ω.cell? ⟨W.heap.size, 2, none⟩ = some (.int .u32 c) := (hj rfl).cell 2
       have j3 : ω.cell? ⟨W.heap.size, 3, none⟩ = some (.int .u32 d) := (hj rfl).cell 3
       have j4 : ω.cell? ⟨W.heap.size, 4, none⟩ = some (.int .u8 e) := (hj rfl).cell 4
       go_simp; rfl)) ?_
  refine wpFl_nil _ _ ?_
  simp only [Act.put, List.setIfInBounds_toArray]
  refine wpCh_one _ _ _ _ rfl ?_
  rw [HU3.out]
  go_wp2_with fail
  refine ⟨HJ1.out, ?_⟩
  refine wpCh_rest _ _ _ _ [_, _, _] _ _ rfl (by kernel_rfl) ?_
  simp only [List.getElem_toArray, List.getElem_cons_succ, List.getElem_cons_zero]
  go_wp2_with fail
  go_ret
  refine ⟨⟨_, rfl⟩, own, L, HREP.out.1.drew, (HX2.out.trans HREP.out.2).drew, rfl⟩
set_option linter.unusedVariables false in
set_option maxRecDepth 100000 in
set_option maxHeartbeats 4000000 in
theorem st_2d (own : Nat → Nat) (L : LY) (R : RG) (hR : ROk R) (hrun : R.run = false) (a b c d e : Int) (ha : W32 a) (hb : W32 b) (hc : W32 c) (hd : W32 d) (he : W32 e) (h4 : ¬ e ≥ 4) (hcm : cmpS a = true) (hh : R.hc = true) (w : World) (h : RR own w L R) :
    Calls Try.prog 36 #[.pointer (some ⟨L.rg, 0, none⟩), .agg #[.int .u8 2, .int .u32 a, .int .u32 b, .int .u32 c, .int .u32 d, .int .u32 e]] w fun e' w' => (∃ z, e' = .returned (.bool z)) ∧ ∃ own' L', RR own' w' L' R ∧ Ext own own' (fun k => k ≤ 18) w w' ∧ L'.rg = L.rg := by
  have c20 : w.cell? ⟨L.rg, 20, none⟩ = some (.pointer none) := by
    have h9 : w.cell? ⟨L.rg, 20, none⟩ = some (ptr R.run L.pb) := h.rg.1.cell 20
    rw [hrun] at h9
    exact h9
  obtain ⟨W, hW⟩ : ∃ W, w.alloc (.cells #[.int .u8 2, .int .u32 a, .int .u32 b, .int .u32 c, .int .u32 d, .int .u32 e] 73) = W := ⟨_, rfl⟩
  have hbe : Below w.heap.size w W := by rw [← hW]; exact (Below.refl _ _).alloc (Nat.le_refl _) _
  have hop : Blk W w.heap.size #[.int .u8 2, .int .u32 a, .int .u32 b, .int .u32 c, .int .u32 d, .int .u32 e] 73 := by rw [← hW]; exact Blk.new _ _ _
  have c20W : W.cell? ⟨L.rg, 20, none⟩ = some (.pointer none) := by rw [← hW]; exact ca1 _ _ _ _ c20
  have q0 : W.cell? ⟨w.heap.size, 0, none⟩ = some (.int .u8 2) := hop.cell 0
  have q1 : W.cell? ⟨w.heap.size, 1, none⟩ = some (.int .u32 a) := hop.cell 1
  have q2 : W.cell? ⟨w.heap.size, 2, none⟩ = some (.int .u32 b) := hop.cell 2
  have q3 : W.cell? ⟨w.heap.size, 3, none⟩ = some (.int .u32 c) := hop.cell 3
  have q4 : W.cell? ⟨w.heap.size, 4, none⟩ = some (.int .u32 d) := hop.cell 4
  have q5 : W.cell? ⟨w.heap.size, 5, none⟩ = some (.int .u32 e) := hop.cell 5
  have HW0 : Hid (RR own W L R) := h.below hbe
  have HX0 : Hid (Ext own own (fun k => k ≤ 18) w W) := Ext.of_below hbe
  have HOP := hid_of hop
  have HBE := hid_of hbe
  have HLT : Hid (L.rg < w.heap.size) := h.rg.1.lt
  have HOK := hid_of hR
  have HRUN := hid_of hrun
  have HH := hid_of h
  clear h hbe hop c20 hR hrun
  have h4b : ¬ e ≥ 4 := h4
  have hcv : e % 256 = e := by have := he.1; omega
  have HCM := hid_of (fun V => isCmp_any a V)
  rw [hcm] at HCM
  obtain ⟨W2, hW2⟩ : ∃ W2, W.alloc (.cells #[.int .u32 a, .int .u32 b, .int .u32 c, .int .u32 d, .int .u8 e] 33) = W2 := ⟨_, rfl⟩
  have HR2 : Hid (RR own W2 L R) := by rw [← hW2]; exact HW0.out.below ((Below.refl _ _).alloc (Nat.le_refl _) _)
  have HX2 : Hid (Ext own own (fun k => k ≤ 18) w W2) := by rw [← hW2]; exact HX0.out.trans (Ext.alloc' _ _ _ _)
  have HF2 : Hid (Blk W2 W.heap.size #[.int .u32 a, .int .u32 b, .int .u32 c, .int .u32 d, .int .u8 e] 33) := by rw [← hW2]; exact Blk.new _ _ _
  have f0 : W2.cell? ⟨W.heap.size, 0, none⟩ = some (.int .u32 a) := HF2.out.cell 0
  have g4 : W2.cell? ⟨L.rg, 4, none⟩ = some (.bool true) := by
    have h9 : W2.cell? ⟨L.rg, 4, none⟩ = some (.bool R.hc) := HR2.out.rg.1.cell 4
    rw [hh] at h9
    exact h9
  clear hcm hh h4
  go_enter Try.func36, Try.ntmps36
  go_upto_region 17 with fail
  clear hW hW2 q0 q1 q2 q3 q4 q5 c20W
  refine wp_region_list ?_
  go_wp2_with fail
  refine (HCM.out W2).mono ?_
  rintro e' w1 ⟨rfl, hw1⟩
  obtain rfl := hw1.symm
  clear hw1
  go_wp2_with fail
  refine (HCM.out W2).mono ?_
  rintro e' w1 ⟨rfl, hw1⟩
  obtain rfl := hw1.symm
  clear hw1
  go_wp2_with fail
  go_ret
  exact ⟨⟨_, rfl⟩, own, L, HR2.out, HX2.out, rfl⟩
set_option linter.unusedVariables false in
set_option maxRecDepth 100000 in
set_option maxHeartbeats 4000000 in
theorem st_2e (own : Nat → Nat) (L : LY) (R : RG) (hR : ROk R) (hrun : R.run = false) (a b c d e : Int) (ha : W32 a) (hb : W32 b) (hc : W32 c) (hd : W32 d) (he : W32 e) (h4 : ¬ e ≥ 4) (hcm : cmpS a = false) (hh : R.ho = false) (w : World) (h : RR own w L R) :
    Calls Try.prog 36 #[.pointer (some ⟨L.rg, 0, none⟩), .agg #[.int .u8 2, .int .u32 a, .int .u32 b, .int .u32 c, .int .u32 d, .int .u32 e]] w fun e' w' => (∃ z, e' = .returned (.bool z)) ∧ ∃ own' L', RR own' w' L' { R with ho := true, fo := ⟨a, b.toNat, c, d, e⟩ } ∧ Ext own own' (fun k => k ≤ 18) w w' ∧ L'.rg = L.rg := by
  have c20 : w.cell? ⟨L.rg, 20, none⟩ = some (.pointer none) := by
    have h9 : w.cell? ⟨L.rg, 20, none⟩ = some (ptr R.run L.pb) := h.rg.1.cell 20
    rw [hrun] at h9
    exact h9
  obtain ⟨W, hW⟩ : ∃ W, w.alloc (.cells #[.int .u8 2, .int .u32 a, .int .u32 b, .int .u32 c, .int .u32 d, .int .u32 e] 73) = W := ⟨_, rfl⟩
  have hbe : Below w.heap.size w W := by rw [← hW]; exact (Below.refl _ _).alloc (Nat.le_refl _) _
  have hop : Blk W w.heap.size #[.int .u8 2, .int .u32 a, .int .u32 b, .int .u32 c, .int .u32 d, .int .u32 e] 73 := by rw [← hW]; exact Blk.new _ _ _
  have c20W : W.cell? ⟨L.rg, 20, none⟩ = some (.pointer none) := by rw [← hW]; exact ca1 _ _ _ _ c20
  have q0 : W.cell? ⟨w.heap.size, 0, none⟩ = some (.int .u8 2) := hop.cell 0
  have q1 : W.cell? ⟨w.heap.size, 1, none⟩ = some (.int .u32 a) := hop.cell 1
  have q2 : W.cell? ⟨w.heap.size, 2, none⟩ = some (.int .u32 b) := hop.cell 2
  have q3 : W.cell? ⟨w.heap.size, 3, none⟩ = some (.int .u32 c) := hop.cell 3
  have q4 : W.cell? ⟨w.heap.size, 4, none⟩ = some (.int .u32 d) := hop.cell 4
  have q5 : W.cell? ⟨w.heap.size, 5, none⟩ = some (.int .u32 e) := hop.cell 5
  have HW0 : Hid (RR own W L R) := h.below hbe
  have HX0 : Hid (Ext own own (fun k => k ≤ 18) w W) := Ext.of_below hbe
  have HOP := hid_of hop
  have HBE := hid_of hbe
  have HLT : Hid (L.rg < w.heap.size) := h.rg.1.lt
  have HOK := hid_of hR
  have HRUN := hid_of hrun
  have HH := hid_of h
  clear h hbe hop c20 hR hrun
  have h4b : ¬ e ≥ 4 := h4
  have hcv : e % 256 = e := by have := he.1; omega
  have HCM := hid_of (fun V => isCmp_any a V)
  rw [hcm] at HCM
  obtain ⟨W2, hW2⟩ : ∃ W2, W.alloc (.cells #[.int .u32 a, .int .u32 b, .int .u32 c, .int .u32 d, .int .u8 e] 33) = W2 := ⟨_, rfl⟩
  have HR2 : Hid (RR own W2 L R) := by rw [← hW2]; exact HW0.out.below ((Below.refl _ _).alloc (Nat.le_refl _) _)
  have HX2 : Hid (Ext own own (fun k => k ≤ 18) w W2) := by rw [← hW2]; exact HX0.out.trans (Ext.alloc' _ _ _ _)
  have HF2 : Hid (Blk W2 W.heap.size #[.int .u32 a, .int .u32 b, .int .u32 c, .int .u32 d, .int .u8 e] 33) := by rw [← hW2]; exact Blk.new _ _ _
  have f0 : W2.cell? ⟨W.heap.size, 0, none⟩ = some (.int .u32 a) := HF2.out.cell 0
  have g4 : W2.cell? ⟨L.rg, 5, none⟩ = some (.bool false) := by
    have h9 : W2.cell? ⟨L.rg, 5, none⟩ = some (.bool R.ho) := HR2.out.rg.1.cell 5
    rw [hh] at h9
    exact h9
  clear hcm hh h4
  go_enter Try.func36, Try.ntmps36
  go_upto_region 17 with fail
  clear hW hW2 q0 q1 q2 q3 q4 q5 c20W
  refine wp_region_list ?_
  go_wp2_with fail
  refine (HCM.out W2).mono ?_
  rintro e' w1 ⟨rfl, hw1⟩
  obtain rfl := hw1.symm
  clear hw1
  go_upto_region 19 with fail
  refine wp_region_list ?_
  go_wp2_with fail
  refine (HCM.out W2).mono ?_
  rintro e' w1 ⟨rfl, hw1⟩
  obtain rfl := hw1.symm
  clear hw1
  go_upto_region 20 with fail
  obtain ⟨u3, hu3, hl3⟩ := HR2.out.rg.1.out
  have hne : W.heap.size ≠ L.rg := HF2.out.neT HR2.out.rg.1 (by decide)
  have hu3' : W2 = put u3 L.rg #[L.pv, .map (some L.img), .pointer (some ⟨L.ubP, 0, none⟩), .pointer (some ⟨L.ubD, 0, none⟩), .bool R.hc, .bool R.ho, .int .u32 R.fc.site, .int .u32 (R.fc.bit : Nat), .int .u32 R.fc.cyc, .int .u32 R.fc.dur, .int .u8 R.fc.kind, .int .u32 R.fo.site, .int .u32 (R.fo.bit : Nat), .int .u32 R.fo.cyc, .int .u32 R.fo.dur, .int .u8 R.fo.kind, .bool R.kc, .bool R.ko, .bool R.hd, .int .u32 R.desc, .pointer none, .pointer none, L.rv] 38 := by
    rw [hu3]
    unfold rigV ptr
    rw [HRUN.out]
    rfl
  have hbit : ((b.toNat : Nat) : Int) = b := Int.toNat_of_nonneg hb.1
  have HREP : Hid (RR own (put u3 L.rg #[L.pv, .map (some L.img), .pointer (some ⟨L.ubP, 0, none⟩), .pointer (some ⟨L.ubD, 0, none⟩), .bool R.hc, .bool true, .int .u32 R.fc.site, .int .u32 (R.fc.bit : Nat), .int .u32 R.fc.cyc, .int .u32 R.fc.dur, .int .u8 R.fc.kind, .int .u32 a, .int .u32 b, .int .u32 c, .int .u32 d, .int .u8 e, .bool R.kc, .bool R.ko, .bool R.hd, .int .u32 R.desc, .pointer none, .pointer none, L.rv] 38) L { R with ho := true, fo := ⟨a, b.toNat, c, d, e⟩ } ∧ Ext own own (fun k => k ≤ 18) W2 (put u3 L.rg #[L.pv, .map (some L.img), .pointer (some ⟨L.ubP, 0, none⟩), .pointer (some ⟨L.ubD, 0, none⟩), .bool R.hc, .bool true, .int .u32 R.fc.site, .int .u32 (R.fc.bit : Nat), .int .u32 R.fc.cyc, .int .u32 R.fc.dur, .int .u8 R.fc.kind, .int .u32 a, .int .u32 b, .int .u32 c, .int .u32 d, .int .u8 e, .bool R.kc, .bool R.ko, .bool R.hd, .int .u32 R.desc, .pointer none, .pointer none, L.rv] 38)) := by
    have k := HR2.out.row (R' := { R with ho := true, fo := ⟨a, b.toNat, c, d, e⟩ }) rfl
    have e1 : rigV L { R with ho := true, fo := ⟨a, b.toNat, c, d, e⟩ } = #[L.pv, .map (some L.img), .pointer (some ⟨L.ubP, 0, none⟩), .pointer (some ⟨L.ubD, 0, none⟩), .bool R.hc, .bool true, .int .u32 R.fc.site, .int .u32 (R.fc.bit : Nat), .int .u32 R.fc.cyc, .int .u32 R.fc.dur, .int .u8 R.fc.kind, .int .u32 a, .int .u32 b, .int .u32 c, .int .u32 d, .int .u8 e, .bool R.kc, .bool R.ko, .bool R.hd, .int .u32 R.desc, .pointer none, .pointer none, L.rv] := by
      unfold rigV ptr
      simp only [HRUN.out, hbit]
      rfl
    rw [e1] at k
    refine ⟨?_, ?_⟩
    · have k1 := k.1; rw [hu3, put_put] at k1; exact k1
    · have k2 := k.2
      have e3 : put W2 L.rg #[L.pv, .map (some L.img), .pointer (some ⟨L.ubP, 0, none⟩), .pointer (some ⟨L.ubD, 0, none⟩), .bool R.hc, .bool true, .int .u32 R.fc.site, .int .u32 (R.fc.bit : Nat), .int .u32 R.fc.cyc, .int .u32 R.fc.dur, .int .u8 R.fc.kind, .int .u32 a, .int .u32 b, .int .u32 c, .int .u32 d, .int .u8 e, .bool R.kc, .bool R.ko, .bool R.hd, .int .u32 R.desc, .pointer none, .pointer none, L.rv] 38 = put u3 L.rg #[L.pv, .map (some L.img), .pointer (some ⟨L.ubP, 0, none⟩), .pointer (some ⟨L.ubD, 0, none⟩), .bool R.hc, .bool true, .int .u32 R.fc.site, .int .u32 (R.fc.bit : Nat), .int .u32 R.fc.cyc, .int .u32 R.fc.dur, .int .u8 R.fc.kind, .int .u32 a, .int .u32 b, .int .u32 c, .int .u32 d, .int .u8 e, .bool R.kc, .bool R.ko, .bool R.hd, .int .u32 R.desc, .pointer none, .pointer none, L.rv] 38 := by rw [hu3, put_put]
      rw [e3] at k2
      exact k2
  have HJ1 : Hid (Blk (put u3 L.rg #[L.pv, .map (some L.img), .pointer (some ⟨L.ubP, 0, none⟩), .pointer (some ⟨L.ubD, 0, none⟩), .bool R.hc, .bool true, .int .u32 R.fc.site, .int .u32 (R.fc.bit : Nat), .int .u32 R.fc.cyc, .int .u32 R.fc.dur, .int .u8 R.fc.kind, .int .u32 R.fo.site, .int .u32 (R.fo.bit : Nat), .int .u32 R.fo.cyc, .int .u32 R.fo.dur, .int .u8 R.fo.kind, .bool R.kc, .bool R.ko, .bool R.hd, .int .u32 R.desc, .pointer none, .pointer none, L.rv] 38).drew W.heap.size #[.int .u32 a, .int .u32 b, .int .u32 c, .int .u32 d, .int .u8 e] 33) := by
    have k := HF2.out.put_ne (b := L.rg) (cs := #[L.pv, .map (some L.img), .pointer (some ⟨L.ubP, 0, none⟩), .pointer (some ⟨L.ubD, 0, none⟩), .bool R.hc, .bool true, .int .u32 R.fc.site, .int .u32 (R.fc.bit : Nat), .int .u32 R.fc.cyc, .int .u32 R.fc.dur, .int .u8 R.fc.kind, .int .u32 R.fo.site, .int .u32 (R.fo.bit : Nat), .int .u32 R.fo.cyc, .int .u32 R.fo.dur, .int .u8 R.fo.kind, .bool R.kc, .bool R.ko, .bool R.hd, .int .u32 R.desc, .pointer none, .pointer none, L.rv]) (T := 38) hne
    rw [hu3, put_put] at k
    exact k
  have HU3 := hid_of hu3'
  clear hu3 hu3' f0 g4
  refine wp_region_float [0, 1, 2, 3, 4] [5, 6, 7, 8] [0, 1, 3, 4] mixed (fun ω => Blk ω W.heap.size #[.int .u32 a, .int .u32 b, .int .u32 c, .int .u32 d, .int .u8 e] 33) (by kernel_rfl) rfl (by kernel_rfl) HF2.out ?_
  iterate 5 refine wpFl_op _ _ _ _ rfl rfl (fun ω hj => by
    first
    | (go_simp; rfl)
    | (have j0 : ω.cell? ⟨W.heap.size, 0, none⟩ = some (.int .u32 a) := (hj rfl).cell 0
       have j1 : ω.cell? ⟨W.heap.size, 1, none⟩ = some (.int .u32 b) := (hj rfl).cell 1
       have j2 : ω.cell? ⟨W.heap.size, 2, none⟩ = some (.int .u32 c) := (hj rfl).cell 2
       have j3 : ω.cell? ⟨W.heap.size, 3, none⟩ = some (.int .u32 d) := (hj rfl).cell 3
       have j4 : ω.cell? ⟨W.heap.size, 4, none⟩ = some (.int .u8 e) := (hj rfl).cell 4
       go_simp; rfl)) ?_
  refine wpFl_nil _ _ ?_
  simp only [Act.put, List.setIfInBounds_toArray]
  refine wpCh_one _ _ _ _ rfl ?_
  rw [HU3.out]
  go_wp2_with fail
  refine ⟨HJ1.out, ?_⟩
  refine wpCh_rest _ _ _ _ [_, _, _] _ _ rfl (by kernel_rfl) ?_
  simp only [List.getElem_toArray, List.getElem_cons_succ, List.getElem_cons_zero]
  go_wp2_with fail
  go_ret
  refine ⟨⟨_, rfl⟩, own, L, HREP.out.1.drew, (HX2.out.trans HREP.out.2).drew, rfl⟩
set_option linter.unusedVariables false in
set_option maxRecDepth 100000 in
set_option maxHeartbeats 4000000 in
theorem st_2f (own : Nat → Nat) (L : LY) (R : RG) (hR : ROk R) (hrun : R.run = false) (a b c d e : Int) (ha : W32 a) (hb : W32 b) (hc : W32 c) (hd : W32 d) (he : W32 e) (h4 : ¬ e ≥ 4) (hcm : cmpS a = false) (hh : R.ho = true) (w : World) (h : RR own w L R) :
    Calls Try.prog 36 #[.pointer (some ⟨L.rg, 0, none⟩), .agg #[.int .u8 2, .int .u32 a, .int .u32 b, .int .u32 c, .int .u32 d, .int .u32 e]] w fun e' w' => (∃ z, e' = .returned (.bool z)) ∧ ∃ own' L', RR own' w' L' R ∧ Ext own own' (fun k => k ≤ 18) w w' ∧ L'.rg = L.rg := by
  have c20 : w.cell? ⟨L.rg, 20, none⟩ = some (.pointer none) := by
    have h9 : w.cell? ⟨L.rg, 20, none⟩ = some (ptr R.run L.pb) := h.rg.1.cell 20
    rw [hrun] at h9
    exact h9
  obtain ⟨W, hW⟩ : ∃ W, w.alloc (.cells #[.int .u8 2, .int .u32 a, .int .u32 b, .int .u32 c, .int .u32 d, .int .u32 e] 73) = W := ⟨_, rfl⟩
  have hbe : Below w.heap.size w W := by rw [← hW]; exact (Below.refl _ _).alloc (Nat.le_refl _) _
  have hop : Blk W w.heap.size #[.int .u8 2, .int .u32 a, .int .u32 b, .int .u32 c, .int .u32 d, .int .u32 e] 73 := by rw [← hW]; exact Blk.new _ _ _
  have c20W : W.cell? ⟨L.rg, 20, none⟩ = some (.pointer none) := by rw [← hW]; exact ca1 _ _ _ _ c20
  have q0 : W.cell? ⟨w.heap.size, 0, none⟩ = some (.int .u8 2) := hop.cell 0
  have q1 : W.cell? ⟨w.heap.size, 1, none⟩ = some (.int .u32 a) := hop.cell 1
  have q2 : W.cell? ⟨w.heap.size, 2, none⟩ = some (.int .u32 b) := hop.cell 2
  have q3 : W.cell? ⟨w.heap.size, 3, none⟩ = some (.int .u32 c) := hop.cell 3
  have q4 : W.cell? ⟨w.heap.size, 4, none⟩ = some (.int .u32 d) := hop.cell 4
  have q5 : W.cell? ⟨w.heap.size, 5, none⟩ = some (.int .u32 e) := hop.cell 5
  have HW0 : Hid (RR own W L R) := h.below hbe
  have HX0 : Hid (Ext own own (fun k => k ≤ 18) w W) := Ext.of_below hbe
  have HOP := hid_of hop
  have HBE := hid_of hbe
  have HLT : Hid (L.rg < w.heap.size) := h.rg.1.lt
  have HOK := hid_of hR
  have HRUN := hid_of hrun
  have HH := hid_of h
  clear h hbe hop c20 hR hrun
  have h4b : ¬ e ≥ 4 := h4
  have hcv : e % 256 = e := by have := he.1; omega
  have HCM := hid_of (fun V => isCmp_any a V)
  rw [hcm] at HCM
  obtain ⟨W2, hW2⟩ : ∃ W2, W.alloc (.cells #[.int .u32 a, .int .u32 b, .int .u32 c, .int .u32 d, .int .u8 e] 33) = W2 := ⟨_, rfl⟩
  have HR2 : Hid (RR own W2 L R) := by rw [← hW2]; exact HW0.out.below ((Below.refl _ _).alloc (Nat.le_refl _) _)
  have HX2 : Hid (Ext own own (fun k => k ≤ 18) w W2) := by rw [← hW2]; exact HX0.out.trans (Ext.alloc' _ _ _ _)
  have HF2 : Hid (Blk W2 W.heap.size #[.int .u32 a, .int .u32 b, .int .u32 c, .int .u32 d, .int .u8 e] 33) := by rw [← hW2]; exact Blk.new _ _ _
  have f0 : W2.cell? ⟨W.heap.size, 0, none⟩ = some (.int .u32 a) := HF2.out.cell 0
  have g4 : W2.cell? ⟨L.rg, 5, none⟩ = some (.bool true) := by
    have h9 : W2.cell? ⟨L.rg, 5, none⟩ = some (.bool R.ho) := HR2.out.rg.1.cell 5
    rw [hh] at h9
    exact h9
  clear hcm hh h4
  go_enter Try.func36, Try.ntmps36
  go_upto_region 17 with fail
  clear hW hW2 q0 q1 q2 q3 q4 q5 c20W
  refine wp_region_list ?_
  go_wp2_with fail
  refine (HCM.out W2).mono ?_
  rintro e' w1 ⟨rfl, hw1⟩
  obtain rfl := hw1.symm
  clear hw1
  go_wp2_with fail
  refine (HCM.out W2).mono ?_
  rintro e' w1 ⟨rfl, hw1⟩
  obtain rfl := hw1.symm
  clear hw1
  go_wp2_with fail
  go_ret
  exact ⟨⟨_, rfl⟩, own, L, HR2.out, HX2.out, rfl⟩
end Go.Proofs.Qxb6500749a
