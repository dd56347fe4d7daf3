import Derived.Test.Qxb6500749aSta
import Derived.LoopN
namespace Go.Proofs.Qxb6500749a
open Go.RowKit
attribute [local go_sem] put_size put_cell_same put_cell_ne put_frozen_same put_frozen_ne put_setCell_same put_setCell_ne put_drew
attribute [local go_sem] drewN_setCell drewN_alloc drewN_put
set_option linter.unusedVariables false in
set_option maxRecDepth 100000 in
set_option maxHeartbeats 4000000 in
theorem st_3t (own : Nat → Nat) (L : LY) (R : RG) (hR : ROk R) (hrun : R.run = true) (a b c d e : Int) (ha : W32 a) (hb : W32 b) (hc : W32 c) (hd : W32 d) (he : W32 e)  (w : World) (h : RR own w L R) :
    Calls Try.prog 36 #[.pointer (some ⟨L.rg, 0, none⟩), .agg #[.int .u8 3, .int .u32 a, .int .u32 b, .int .u32 c, .int .u32 d, .int .u32 e]] w fun e' w' => (∃ z, e' = .returned (.bool z)) ∧ ∃ own' L', RR own' w' L' { R with uP := queF R.uP a, uD := queF R.uD a } ∧ Ext own own' (fun k => k ≤ 18) w w' ∧ L'.rg = L.rg := by
  have c20 : w.cell? ⟨L.rg, 20, none⟩ = some (.pointer (some ⟨L.pb, 0, none⟩)) := by
    have h9 : w.cell? ⟨L.rg, 20, none⟩ = some (ptr R.run L.pb) := h.rg.1.cell 20
    rw [hrun] at h9
    exact h9
  obtain ⟨W, hW⟩ : ∃ W, w.alloc (.cells #[.int .u8 3, .int .u32 a, .int .u32 b, .int .u32 c, .int .u32 d, .int .u32 e] 73) = W := ⟨_, rfl⟩
  have hbe : Below w.heap.size w W := by rw [← hW]; exact (Below.refl _ _).alloc (Nat.le_refl _) _
  have hop : Blk W w.heap.size #[.int .u8 3, .int .u32 a, .int .u32 b, .int .u32 c, .int .u32 d, .int .u32 e] 73 := by rw [← hW]; exact Blk.new _ _ _
  have c20W : W.cell? ⟨L.rg, 20, none⟩ = some (.pointer (some ⟨L.pb, 0, none⟩)) := by rw [← hW]; exact ca1 _ _ _ _ c20
  have q0 : W.cell? ⟨w.heap.size, 0, none⟩ = some (.int .u8 3) := hop.cell 0
  have q1 : W.cell? ⟨w.heap.size, 1, none⟩ = some (.int .u32 a) := hop.cell 1
  have q2 : W.cell? ⟨w.heap.size, 2, none⟩ = some (.int .u32 b) := hop.cell 2
  have q3 : W.cell? ⟨w.heap.size, 3, none⟩ = some (.int .u32 c) := hop.cell 3
  have q4 : W.cell? ⟨w.heap.size, 4, none⟩ = some (.int .u32 d) := hop.cell 4
  have q5 : W.cell? ⟨w.heap.size, 5, none⟩ = some (.int .u32 e) := hop.cell 5
  have HW0 : Hid (RR own W L R) := h.below hbe
  have HX0 : Hid (Ext own own (fun k => k ≤ 18) w W) := Ext.of_below hbe
  have HOP := hid_of hop
  have HBE := hid_of hbe
  have HLT : Hid (L.rg < w.heap.size) := h.rg.1.lt
  have HOK := hid_of hR
  have HRUN := hid_of hrun
  have HH := hid_of h
  clear h hbe hop c20 hR hrun
  have HQ1 := hid_of (queue_any L.ubP L.mbP L.lvP L.gvP R.uP HOK.out.uP.llen a W.drew HW0.out.drew.uP.u)
  have HJ : Hid (Blk W.drew L.rg (rigV L R) 38) := HW0.out.drew.rg.1
  obtain ⟨z1, hz1⟩ : ∃ z1, queB R.uP a = z1 := ⟨_, rfl⟩
  obtain ⟨z2, hz2⟩ : ∃ z2, queB R.uD a = z2 := ⟨_, rfl⟩
  rw [hz1] at HQ1
  have HZ2 := hid_of hz2
  clear hz1 hz2
  go_enter Try.func36, Try.ntmps36
  go_upto_region 22 with fail
  clear hW q0 q1 q2 q3 q4 q5 c20W
  refine wp_region_float [0, 1, 2, 3, 4, 5, 7, 8, 9, 10, 11, 12] [6, 13, 14, 15] [0, 1, 2, 4, 7, 8, 9, 11] mixed (fun ω => Blk ω L.rg (rigV L R) 38 ∧ Blk ω w.heap.size #[.int .u8 3, .int .u32 a, .int .u32 b, .int .u32 c, .int .u32 d, .int .u32 e] 73) (by kernel_rfl) rfl (by kernel_rfl) ⟨HJ.out, HOP.out⟩ ?_
  iterate 12 refine wpFl_op _ _ _ _ rfl rfl (fun ω hj => by
    first
    | (go_simp; rfl)
    | (have j2 : ω.cell? ⟨L.rg, 2, none⟩ = some (.pointer (some ⟨L.ubP, 0, none⟩)) := (hj rfl).1.cell 2
       have j3 : ω.cell? ⟨L.rg, 3, none⟩ = some (.pointer (some ⟨L.ubD, 0, none⟩)) := (hj rfl).1.cell 3
       have j1 : ω.cell? ⟨w.heap.size, 1, none⟩ = some (.int .u32 a) := (hj rfl).2.cell 1
       go_simp; rfl)) ?_
  refine wpFl_nil _ _ ?_
  simp only [Act.put, List.setIfInBounds_toArray]
  refine wpCh_one _ _ _ _ rfl ?_
  go_wp2_with fail
  refine HQ1.out.mono ?_
  rintro e' w2 ⟨rfl, lv2, h1, h2, h3⟩
  have H2 := hid_of (HW0.out.drew.queP h1 h2 h3)
  have HOP2 : Hid (Blk w2 w.heap.size #[.int .u8 3, .int .u32 a, .int .u32 b, .int .u32 c, .int .u32 d, .int .u32 e] 73) := HOP.out.fr (w := W.drew) h2 (by
    rintro (q | q)
    · exact HOP.out.neT HW0.out.uP.u.blk (by decide) q
    · exact HOP.out.sl_ne (by decide) HW0.out.uP.u.lat _ q rfl)
  clear HQ1 h1 h2 h3
  have HQ2 := hid_of (queue_any L.ubD L.mbD L.lvD L.gvD R.uD HOK.out.uD.llen a w2 H2.out.1.uD.u)
  rw [HZ2.out] at HQ2
  go_wp2_with fail
  refine ⟨⟨H2.out.1.rg.1, HOP2.out⟩, ?_⟩
  refine wpCh_rest _ _ _ _ [_, _, _] _ _ rfl (by kernel_rfl) ?_
  simp only [List.getElem_toArray, List.getElem_cons_succ, List.getElem_cons_zero]
  go_wp2_with fail
  refine HQ2.out.mono ?_
  rintro e' w3 ⟨rfl, lv3, h1, h2, h3⟩
  have H3 := hid_of (H2.out.1.queD h1 h2 h3)
  have HX3 : Hid (Ext own _ (fun k => k ≤ 18) w w3) := (HX0.out.drew.trans H2.out.2).trans H3.out.2
  clear HQ2 h1 h2 h3 HOP2
  cases z1
  · go_wp2_with fail
    go_ret
    exact ⟨⟨_, rfl⟩, _, _, H3.out.1, HX3.out, rfl⟩
  · go_wp2_with fail
    go_ret
    exact ⟨⟨_, rfl⟩, _, _, H3.out.1, HX3.out, rfl⟩
set_option linter.unusedVariables false in
set_option maxRecDepth 100000 in
set_option maxHeartbeats 4000000 in
theorem st_3f (own : Nat → Nat) (L : LY) (R : RG) (hR : ROk R) (hrun : R.run = false) (a b c d e : Int) (ha : W32 a) (hb : W32 b) (hc : W32 c) (hd : W32 d) (he : W32 e)  (w : World) (h : RR own w L R) :
    Calls Try.prog 36 #[.pointer (some ⟨L.rg, 0, none⟩), .agg #[.int .u8 3, .int .u32 a, .int .u32 b, .int .u32 c, .int .u32 d, .int .u32 e]] w fun e' w' => (∃ z, e' = .returned (.bool z)) ∧ ∃ own' L', RR own' w' L' { R with uP := queF R.uP a, uD := queF R.uD a } ∧ Ext own own' (fun k => k ≤ 18) w w' ∧ L'.rg = L.rg := by
  have c20 : w.cell? ⟨L.rg, 20, none⟩ = some (.pointer none) := by
    have h9 : w.cell? ⟨L.rg, 20, none⟩ = some (ptr R.run L.pb) := h.rg.1.cell 20
    rw [hrun] at h9
    exact h9
  obtain ⟨W, hW⟩ : ∃ W, w.alloc (.cells #[.int .u8 3, .int .u32 a, .int .u32 b, .int .u32 c, .int .u32 d, .int .u32 e] 73) = W := ⟨_, rfl⟩
  have hbe : Below w.heap.size w W := by rw [← hW]; exact (Below.refl _ _).alloc (Nat.le_refl _) _
  have hop : Blk W w.heap.size #[.int .u8 3, .int .u32 a, .int .u32 b, .int .u32 c, .int .u32 d, .int .u32 e] 73 := by rw [← hW]; exact Blk.new _ _ _
  have c20W : W.cell? ⟨L.rg, 20, none⟩ = some (.pointer none) := by rw [← hW]; exact ca1 _ _ _ _ c20
  have q0 : W.cell? ⟨w.heap.size, 0, none⟩ = some (.int .u8 3) := hop.cell 0
  have q1 : W.cell? ⟨w.heap.size, 1, none⟩ = some (.int .u32 a) := hop.cell 1
  have q2 : W.cell? ⟨w.heap.size, 2, none⟩ = some (.int .u32 b) := hop.cell 2
  have q3 : W.cell? ⟨w.heap.size, 3, none⟩ = some (.int .u32 c) := hop.cell 3
  have q4 : W.cell? ⟨w.heap.size, 4, none⟩ = some (.int .u32 d) := hop.cell 4
  have q5 : W.cell? ⟨w.heap.size, 5, none⟩ = some (.int .u32 e) := hop.cell 5
  have HW0 : Hid (RR own W L R) := h.below hbe
  have HX0 : Hid (Ext own own (fun k => k ≤ 18) w W) := Ext.of_below hbe
  have HOP := hid_of hop
  have HBE := hid_of hbe
  have HLT : Hid (L.rg < w.heap.size) := h.rg.1.lt
  have HOK := hid_of hR
  have HRUN := hid_of hrun
  have HH := hid_of h
  clear h hbe hop c20 hR hrun
  have HQ1 := hid_of (queue_any L.ubP L.mbP L.lvP L.gvP R.uP HOK.out.uP.llen a W.drew HW0.out.drew.uP.u)
  have HJ : Hid (Blk W.drew L.rg (rigV L R) 38) := HW0.out.drew.rg.1
  obtain ⟨z1, hz1⟩ : ∃ z1, queB R.uP a = z1 := ⟨_, rfl⟩
  obtain ⟨z2, hz2⟩ : ∃ z2, queB R.uD a = z2 := ⟨_, rfl⟩
  rw [hz1] at HQ1
  have HZ2 := hid_of hz2
  clear hz1 hz2
  go_enter Try.func36, Try.ntmps36
  go_upto_region 22 with fail
  clear hW q0 q1 q2 q3 q4 q5 c20W
  refine wp_region_float [0, 1, 2, 3, 4, 5, 7, 8, 9, 10, 11, 12] [6, 13, 14, 15] [0, 1, 2, 4, 7, 8, 9, 11] mixed (fun ω => Blk ω L.rg (rigV L R) 38 ∧ Blk ω w.heap.size #[.int .u8 3, .int .u32 a, .int .u32 b, .int .u32 c, .int .u32 d, .int .u32 e] 73) (by kernel_rfl) rfl (by kernel_rfl) ⟨HJ.out, HOP.out⟩ ?_
  iterate 12 refine wpFl_op _ _ _ _ rfl rfl (fun ω hj => by
    first
    | (go_simp; rfl)
    | (have j2 : ω.cell? ⟨L.rg, 2, none⟩ = some (.pointer (some ⟨L.ubP, 0, none⟩)) := (hj rfl).1.cell 2
       have j3 : ω.cell? ⟨L.rg, 3, none⟩ = some (.pointer (some ⟨L.ubD, 0, none⟩)) := (hj rfl).1.cell 3
       have j1 : ω.cell? ⟨w.heap.size, 1, none⟩ = some (.int .u32 a) := (hj rfl).2.cell 1
       go_simp; rfl)) ?_
  refine wpFl_nil _ _ ?_
  simp only [Act.put, List.setIfInBounds_toArray]
  refine wpCh_one _ _ _ _ rfl ?_
  go_wp2_with fail
  refine HQ1.out.mono ?_
  rintro e' w2 ⟨rfl, lv2, h1, h2, h3⟩
  have H2 := hid_of (HW0.out.drew.queP h1 h2 h3)
  have HOP2 : Hid (Blk w2 w.heap.size #[.int .u8 3, .int .u32 a, .int .u32 b, .int .u32 c, .int .u32 d, .int .u32 e] 73) := HOP.out.fr (w := W.drew) h2 (by
    rintro (q | q)
    · exact HOP.out.neT HW0.out.uP.u.blk (by decide) q
    · exact HOP.out.sl_ne (by decide) HW0.out.uP.u.lat _ q rfl)
  clear HQ1 h1 h2 h3
  have HQ2 := hid_of (queue_any L.ubD L.mbD L.lvD L.gvD R.uD HOK.out.uD.llen a w2 H2.out.1.uD.u)
  rw [HZ2.out] at HQ2
  go_wp2_with fail
  refine ⟨⟨H2.out.1.rg.1, HOP2.out⟩, ?_⟩
  refine wpCh_rest _ _ _ _ [_, _, _] _ _ rfl (by kernel_rfl) ?_
  simp only [List.getElem_toArray, List.getElem_cons_succ, List.getElem_cons_zero]
  go_wp2_with fail
  refine HQ2.out.mono ?_
  rintro e' w3 ⟨rfl, lv3, h1, h2, h3⟩
  have H3 := hid_of (H2.out.1.queD h1 h2 h3)
  have HX3 : Hid (Ext own _ (fun k => k ≤ 18) w w3) := (HX0.out.drew.trans H2.out.2).trans H3.out.2
  clear HQ2 h1 h2 h3 HOP2
  cases z1
  · go_wp2_with fail
    go_ret
    exact ⟨⟨_, rfl⟩, _, _, H3.out.1, HX3.out, rfl⟩
  · go_wp2_with fail
    go_ret
    exact ⟨⟨_, rfl⟩, _, _, H3.out.1, HX3.out, rfl⟩
set_option linter.unusedVariables false in
set_option maxRecDepth 100000 in
set_option maxHeartbeats 4000000 in
theorem st_4bt (own : Nat → Nat) (L : LY) (R : RG) (hR : ROk R) (hrun : R.run = true) (a b c d e : Int) (ha : W32 a) (hb : W32 b) (hc : W32 c) (hd : W32 d) (he : W32 e) (h4 : ¬ a > 400) (hN : R.reps.length < 900000000) (w : World) (h : RR own w L R) :
    Calls Try.prog 36 #[.pointer (some ⟨L.rg, 0, none⟩), .agg #[.int .u8 4, .int .u32 a, .int .u32 b, .int .u32 c, .int .u32 d, .int .u32 e]] w fun e' w' => (∃ z, e' = .returned (.bool z)) ∧ ∃ own' L', RR own' w' L' (cycN a.toNat R) ∧ Ext own own' (fun k => k ≤ 18) w w' ∧ L'.rg = L.rg := by
  have c20 : w.cell? ⟨L.rg, 20, none⟩ = some (.pointer (some ⟨L.pb, 0, none⟩)) := by
    have h9 : w.cell? ⟨L.rg, 20, none⟩ = some (ptr R.run L.pb) := h.rg.1.cell 20
    rw [hrun] at h9
    exact h9
  obtain ⟨W, hW⟩ : ∃ W, w.alloc (.cells #[.int .u8 4, .int .u32 a, .int .u32 b, .int .u32 c, .int .u32 d, .int .u32 e] 73) = W := ⟨_, rfl⟩
  have hbe : Below w.heap.size w W := by rw [← hW]; exact (Below.refl _ _).alloc (Nat.le_refl _) _
  have hop : Blk W w.heap.size #[.int .u8 4, .int .u32 a, .int .u32 b, .int .u32 c, .int .u32 d, .int .u32 e] 73 := by rw [← hW]; exact Blk.new _ _ _
  have c20W : W.cell? ⟨L.rg, 20, none⟩ = some (.pointer (some ⟨L.pb, 0, none⟩)) := by rw [← hW]; exact ca1 _ _ _ _ c20
  have q0 : W.cell? ⟨w.heap.size, 0, none⟩ = some (.int .u8 4) := hop.cell 0
  have q1 : W.cell? ⟨w.heap.size, 1, none⟩ = some (.int .u32 a) := hop.cell 1
  have q2 : W.cell? ⟨w.heap.size, 2, none⟩ = some (.int .u32 b) := hop.cell 2
  have q3 : W.cell? ⟨w.heap.size, 3, none⟩ = some (.int .u32 c) := hop.cell 3
  have q4 : W.cell? ⟨w.heap.size, 4, none⟩ = some (.int .u32 d) := hop.cell 4
  have q5 : W.cell? ⟨w.heap.size, 5, none⟩ = some (.int .u32 e) := hop.cell 5
  have HW0 : Hid (RR own W L R) := h.below hbe
  have HX0 : Hid (Ext own own (fun k => k ≤ 18) w W) := Ext.of_below hbe
  have HOP := hid_of hop
  have HBE := hid_of hbe
  have HLT : Hid (L.rg < w.heap.size) := h.rg.1.lt
  have HOK := hid_of hR
  have HRUN := hid_of hrun
  have HH := hid_of h
  clear h hbe hop c20 hR hrun
  obtain ⟨n, hn⟩ : ∃ n : Nat, a.toNat = n := ⟨_, rfl⟩
  have han : a = (n : Nat) := by rw [← hn]; exact (Int.toNat_of_nonneg ha.1).symm
  rw [hn]
  have hn4 : n ≤ 400 := by omega
  have HNN : Hid (n ≤ 400 ∧ R.reps.length < 900000000) := ⟨hn4, hN⟩
  clear hn hN
  subst han
  go_enter Try.func36, Try.ntmps36
  go_upto_region 27 with fail
  clear hW
  go_wp2_with fail
  refine q_of (Q := fun a => (Code.loop _).wp Try.prog _ a _) (F := fr36 L.rg w.heap.size (n : Nat)) (fun u0 => ?_) _ (by kernel_rfl)
  clear q0 q1 q2 q3 q4 q5 c20W ha h4 hn4
  refine wp_loop (fun act wr => ∃ (u : Nat → Value) (i : Nat) (x : Int) (own1 : Nat → Nat) (L1 : LY) (R1 : RG), act = fr36 L.rg w.heap.size x u ∧ x = (n : Int) - (i : Nat) ∧ i ≤ n ∧ Hid (RR own1 wr L1 R1 ∧ ROk R1 ∧ R1.reps.length = R.reps.length + i ∧ cycN (n - i) R1 = cycN n R ∧ Ext own own1 (fun k => k ≤ 18) w wr ∧ L1.rg = L.rg)) (fun act _ => (intOf (act.tmps.getD 9 undef)).toNat) ⟨u0, 0, (n : Nat), own, L, R, rfl, by omega, Nat.zero_le _, HW0.out, HOK.out, rfl, rfl, HX0.out, rfl⟩ ?_
  rintro act wr ⟨u, i, x, own1, L1, R1, rfl, hx, hi, HR⟩
  by_cases hin : i < n
  · have hgt : (0 : Int) < x := by omega
    have hsub : (x - 1) % 4294967296 = x - 1 := by have := HNN.out.1; omega
    have HCY := hid_of (rcycle_any own1 L1 R1 HR.out.2.1 (by rw [HR.out.2.2.1]; have := HNN.out; omega) wr HR.out.1)
    rw [HR.out.2.2.2.2.2] at HCY
    obtain ⟨KR, hKR⟩ : ∃ KR : Act → World → Prop, KR = fun a' w' => ((fun act wr => ∃ (u : Nat → Value) (i : Nat) (x : Int) (own1 : Nat → Nat) (L1 : LY) (R1 : RG), act = fr36 L.rg w.heap.size x u ∧ x = (n : Int) - (i : Nat) ∧ i ≤ n ∧ Hid (RR own1 wr L1 R1 ∧ ROk R1 ∧ R1.reps.length = R.reps.length + i ∧ cycN (n - i) R1 = cycN n R ∧ Ext own own1 (fun k => k ≤ 18) w wr ∧ L1.rg = L.rg)) a' w' ∧ (intOf (a'.tmps.getD 9 undef)).toNat < (intOf ((fr36 L.rg w.heap.size x u).tmps.getD 9 undef)).toNat) := ⟨_, rfl⟩
    have HKR : Hid (∀ (act : Act) (w' : World) (own2 : Nat → Nat) (L2 : LY), act = fr36 L.rg w.heap.size (x - 1) (fun i => act.tmps.getD i undef) → RR own2 w' L2 (cycR R1) → Ext own1 own2 (fun k => k ≤ 18) wr w' → L2.rg = L.rg → KR act w') := fun act w' own2 L2 e h1 h2 h3 => by
      rw [hKR]
      refine ⟨⟨_, i + 1, x - 1, own2, L2, cycR R1, e, by omega, hin, h1, HR.out.2.1.cyc, ?_, ?_, HR.out.2.2.2.2.1.trans h2, h3⟩, ?_⟩
      · show (cy2 (cy1 _)).reps.length = _
        show ((if R1.run = true then R1 else strR R1).reps ++ [_]).length = _
        have : (if R1.run = true then R1 else strR R1).reps = R1.reps := by split <;> rfl
        rw [this, List.length_append, List.length_singleton, HR.out.2.2.1]; omega
      · rw [← HR.out.2.2.2.1]
        have : n - i = (n - (i + 1)) + 1 := by omega
        rw [this]; rfl
      · have e1 : act.tmps.getD 9 undef = .int .u32 (x - 1) := by rw [e]; rfl
        have e2 : (fr36 L.rg w.heap.size x u).tmps.getD 9 undef = .int .u32 x := rfl
        simp only [e1, e2, intOf]
        omega
    rw [← hKR]
    clear hKR hx
    unfold fr36
    go_wp2_with fail
    refine HCY.out.mono ?_
    rintro e' w2 ⟨rfl, own2, L2, h1, h2, h3⟩
    have H1 := hid_of h1
    have H2 := hid_of h2
    have H3 := hid_of h3
    clear HCY h1 h2 h3
    go_wp2_with fail
    exact HKR.out _ _ _ _ (by kernel_rfl) H1.out H2.out H3.out
  · have hgt : ¬ (0 : Int) < x := by omega
    have HIN : Hid (i = n) := by unfold Hid; omega
    clear hx
    unfold fr36
    go_wp2_with fail
    go_ret
    refine ⟨by first | exact ⟨_, rfl⟩ | exact .inl rfl, own1, L1, ?_, HR.out.2.2.2.2.1, HR.out.2.2.2.2.2⟩
    have e9 := HR.out.2.2.2.1
    rw [HIN.out, Nat.sub_self] at e9
    rw [← e9]
    exact HR.out.1
set_option linter.unusedVariables false in
set_option maxRecDepth 100000 in
set_option maxHeartbeats 4000000 in
theorem st_4bf (own : Nat → Nat) (L : LY) (R : RG) (hR : ROk R) (hrun : R.run = false) (a b c d e : Int) (ha : W32 a) (hb : W32 b) (hc : W32 c) (hd : W32 d) (he : W32 e) (h4 : ¬ a > 400) (hN : R.reps.length < 900000000) (w : World) (h : RR own w L R) :
    Calls Try.prog 36 #[.pointer (some ⟨L.rg, 0, none⟩), .agg #[.int .u8 4, .int .u32 a, .int .u32 b, .int .u32 c, .int .u32 d, .int .u32 e]] w fun e' w' => (∃ z, e' = .returned (.bool z)) ∧ ∃ own' L', RR own' w' L' (cycN a.toNat R) ∧ Ext own own' (fun k => k ≤ 18) w w' ∧ L'.rg = L.rg := by
  have c20 : w.cell? ⟨L.rg, 20, none⟩ = some (.pointer none) := by
    have h9 : w.cell? ⟨L.rg, 20, none⟩ = some (ptr R.run L.pb) := h.rg.1.cell 20
    rw [hrun] at h9
    exact h9
  obtain ⟨W, hW⟩ : ∃ W, w.alloc (.cells #[.int .u8 4, .int .u32 a, .int .u32 b, .int .u32 c, .int .u32 d, .int .u32 e] 73) = W := ⟨_, rfl⟩
  have hbe : Below w.heap.size w W := by rw [← hW]; exact (Below.refl _ _).alloc (Nat.le_refl _) _
  have hop : Blk W w.heap.size #[.int .u8 4, .int .u32 a, .int .u32 b, .int .u32 c, .int .u32 d, .int .u32 e] 73 := by rw [← hW]; exact Blk.new _ _ _
  have c20W : W.cell? ⟨L.rg, 20, none⟩ = some (.pointer none) := by rw [← hW]; exact ca1 _ _ _ _ c20
  have q0 : W.cell? ⟨w.heap.size, 0, none⟩ = some (.int .u8 4) := hop.cell 0
  have q1 : W.cell? ⟨w.heap.size, 1, none⟩ = some (.int .u32 a) := hop.cell 1
  have q2 : W.cell? ⟨w.heap.size, 2, none⟩ = some (.int .u32 b) := hop.cell 2
  have q3 : W.cell? ⟨w.heap.size, 3, none⟩ = some (.int .u32 c) := hop.cell 3
  have q4 : W.cell? ⟨w.heap.size, 4, none⟩ = some (.int .u32 d) := hop.cell 4
  have q5 : W.cell? ⟨w.heap.size, 5, none⟩ = some (.int .u32 e) := hop.cell 5
  have HW0 : Hid (RR own W L R) := h.below hbe
  have HX0 : Hid (Ext own own (fun k => k ≤ 18) w W) := Ext.of_below hbe
  have HOP := hid_of hop
  have HBE := hid_of hbe
  have HLT : Hid (L.rg < w.heap.size) := h.rg.1.lt
  have HOK := hid_of hR
  have HRUN := hid_of hrun
  have HH := hid_of h
  clear h hbe hop c20 hR hrun
  obtain ⟨n, hn⟩ : ∃ n : Nat, a.toNat = n := ⟨_, rfl⟩
  have han : a = (n : Nat) := by rw [← hn]; exact (Int.toNat_of_nonneg ha.1).symm
  rw [hn]
  have hn4 : n ≤ 400 := by omega
  have HNN : Hid (n ≤ 400 ∧ R.reps.length < 900000000) := ⟨hn4, hN⟩
  clear hn hN
  subst han
  go_enter Try.func36, Try.ntmps36
  go_upto_region 27 with fail
  clear hW
  go_wp2_with fail
  refine q_of (Q := fun a => (Code.loop _).wp Try.prog _ a _) (F := fr36 L.rg w.heap.size (n : Nat)) (fun u0 => ?_) _ (by kernel_rfl)
  clear q0 q1 q2 q3 q4 q5 c20W ha h4 hn4
  refine wp_loop (fun act wr => ∃ (u : Nat → Value) (i : Nat) (x : Int) (own1 : Nat → Nat) (L1 : LY) (R1 : RG), act = fr36 L.rg w.heap.size x u ∧ x = (n : Int) - (i : Nat) ∧ i ≤ n ∧ Hid (RR own1 wr L1 R1 ∧ ROk R1 ∧ R1.reps.length = R.reps.length + i ∧ cycN (n - i) R1 = cycN n R ∧ Ext own own1 (fun k => k ≤ 18) w wr ∧ L1.rg = L.rg)) (fun act _ => (intOf (act.tmps.getD 9 undef)).toNat) ⟨u0, 0, (n : Nat), own, L, R, rfl, by omega, Nat.zero_le _, HW0.out, HOK.out, rfl, rfl, HX0.out, rfl⟩ ?_
  rintro act wr ⟨u, i, x, own1, L1, R1, rfl, hx, hi, HR⟩
  by_cases hin : i < n
  · have hgt : (0 : Int) < x := by omega
    have hsub : (x - 1) % 4294967296 = x - 1 := by have := HNN.out.1; omega
    have HCY := hid_of (rcycle_any own1 L1 R1 HR.out.2.1 (by rw [HR.out.2.2.1]; have := HNN.out; omega) wr HR.out.1)
    rw [HR.out.2.2.2.2.2] at HCY
    obtain ⟨KR, hKR⟩ : ∃ KR : Act → World → Prop, KR = fun a' w' => ((fun act wr => ∃ (u : Nat → Value) (i : Nat) (x : Int) (own1 : Nat → Nat) (L1 : LY) (R1 : RG), act = fr36 L.rg w.heap.size x u ∧ x = (n : Int) - (i : Nat) ∧ i ≤ n ∧ Hid (RR own1 wr L1 R1 ∧ ROk R1 ∧ R1.reps.length = R.reps.length + i ∧ cycN (n - i) R1 = cycN n R ∧ Ext own own1 (fun k => k ≤ 18) w wr ∧ L1.rg = L.rg)) a' w' ∧ (intOf (a'.tmps.getD 9 undef)).toNat < (intOf ((fr36 L.rg w.heap.size x u).tmps.getD 9 undef)).toNat) := ⟨_, rfl⟩
    have HKR : Hid (∀ (act : Act) (w' : World) (own2 : Nat → Nat) (L2 : LY), act = fr36 L.rg w.heap.size (x - 1) (fun i => act.tmps.getD i undef) → RR own2 w' L2 (cycR R1) → Ext own1 own2 (fun k => k ≤ 18) wr w' → L2.rg = L.rg → KR act w') := fun act w' own2 L2 e h1 h2 h3 => by
      rw [hKR]
      refine ⟨⟨_, i + 1, x - 1, own2, L2, cycR R1, e, by omega, hin, h1, HR.out.2.1.cyc, ?_, ?_, HR.out.2.2.2.2.1.trans h2, h3⟩, ?_⟩
      · show (cy2 (cy1 _)).reps.length = _
        show ((if R1.run = true then R1 else strR R1).reps ++ [_]).length = _
        have : (if R1.run = true then R1 else strR R1).reps = R1.reps := by split <;> rfl
        rw [this, List.length_append, List.length_singleton, HR.out.2.2.1]; omega
      · rw [← HR.out.2.2.2.1]
        have : n - i = (n - (i + 1)) + 1 := by omega
        rw [this]; rfl
      · have e1 : act.tmps.getD 9 undef = .int .u32 (x - 1) := by rw [e]; rfl
        have e2 : (fr36 L.rg w.heap.size x u).tmps.getD 9 undef = .int .u32 x := rfl
        simp only [e1, e2, intOf]
        omega
    rw [← hKR]
    clear hKR hx
    unfold fr36
    go_wp2_with fail
    refine HCY.out.mono ?_
    rintro e' w2 ⟨rfl, own2, L2, h1, h2, h3⟩
    have H1 := hid_of h1
    have H2 := hid_of h2
    have H3 := hid_of h3
    clear HCY h1 h2 h3
    go_wp2_with fail
    exact HKR.out _ _ _ _ (by kernel_rfl) H1.out H2.out H3.out
  · have hgt : ¬ (0 : Int) < x := by omega
    have HIN : Hid (i = n) := by unfold Hid; omega
    clear hx
    unfold fr36
    go_wp2_with fail
    go_ret
    refine ⟨by first | exact ⟨_, rfl⟩ | exact .inl rfl, own1, L1, ?_, HR.out.2.2.2.2.1, HR.out.2.2.2.2.2⟩
    have e9 := HR.out.2.2.2.1
    rw [HIN.out, Nat.sub_self] at e9
    rw [← e9]
    exact HR.out.1
end Go.Proofs.Qxb6500749a
