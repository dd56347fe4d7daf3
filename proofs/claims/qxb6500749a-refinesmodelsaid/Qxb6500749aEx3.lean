import Derived.Test.Qxb6500749aExe
namespace Go.Proofs.Qxb6500749a
open Go.RowKit
attribute [local go_sem] put_size put_cell_same put_cell_ne put_frozen_same put_frozen_ne put_setCell_same put_setCell_ne put_drew
attribute [local go_sem] drewN_setCell drewN_alloc drewN_put
set_option linter.unusedVariables false in
set_option maxRecDepth 100000 in
set_option maxHeartbeats 4000000 in
theorem ex_10 (pb o bb cb base : Nat) (hb : base ≤ 18) (fv : Value) (a : Option Addr) (n cap : Nat) (prog : List Int) (hn : prog.length = n) (hn6 : n ≤ 64) (hpr : ∀ x ∈ prog, W32 x) (B : BD) (hB : B.Ok) (w : World) (hc : CR w pb o bb base (.slice a n cap)) (h : BR w bb cb fv B) (hS : Sl w (.slice a n cap) 30 1 n (prow prog)) (hpc : pb ≠ cb)
    (hop : (decF (fetF prog (B.get (base + 16)))).op = 10) :
    Calls Try.prog 77 #[.pointer (some ⟨pb, o, none⟩)] w fun e w' => e = .returned (.agg (buV (execF prog base B).2)) ∧ Tn w w' cb (execF prog base B).1.c := by
  have hpcw := hB.get (base + 16)
  obtain ⟨pc, hpcd⟩ : ∃ pc, B.get (base + 16) = pc := ⟨_, rfl⟩
  have hfw : W32 (fetF prog pc) := fetF_w32 hpr pc (by rw [hpcd] at hpcw; exact hpcw)
  obtain ⟨x, hx⟩ : ∃ x, fetF prog pc = x := ⟨_, rfl⟩
  have hdec := decF_ok x (by rw [← hx]; exact hfw)
  rw [hpcd, hx] at hop
  have hE : Hid (execF prog base B = execI base pc (decF x) B) := by unfold Hid execF; rw [hpcd, hx]
  obtain ⟨W, hW⟩ : ∃ W, w.alloc (.cells #[.int .u32 0, .int .u32 0, .int .u32 0] 49) = W := ⟨_, rfl⟩
  have hbel : Below w.heap.size w W := by rw [← hW]; exact (Below.refl _ _).alloc (Nat.le_refl _) _
  have hbn : Blk W w.heap.size #[.int .u32 0, .int .u32 0, .int .u32 0] 49 := by rw [← hW]; exact Blk.new _ _ _
  have hc1 : CR W pb o bb base (.slice a n cap) := by rw [← hW]; exact ⟨ca1 _ _ _ _ hc.c0, ca1 _ _ _ _ hc.c1, ca1 _ _ _ _ hc.c2⟩
  have hB1 := h.below hbel
  have HP := hid_of (pc_any pb o bb cb base hb fv _ B W hc1 hB1)
  rw [hpcd] at HP
  have H0 := hid_of (And.intro hbel (And.intro hbn (And.intro hc (And.intro h (And.intro hS (And.intro hpc hn))))))
  have HD := hid_of hdec
  have hplt := World.block_lt_of_cell? _ _ hc.c0
  have hclt := h.cel.lt
  have HOK := hid_of hB
  have HPW : Hid (W32 pc) := by rw [← hpcd]; exact hpcw
  have HXW : Hid (W32 x) := by rw [← hx]; exact hfw
  have HX := hid_of hx
  have HGET := hid_of hpcd
  clear hc h hbn hbel hc1 hB1 hdec hS hpc hn hB hpr hpcw hfw hx hpcd
  obtain ⟨I, hI⟩ : ∃ I, decF x = I := ⟨_, rfl⟩
  rw [hI] at hop hE HD
  have HI := hid_of hI
  clear hI
  obtain ⟨op, rd, ra, rb, i12, i16⟩ := I
  simp only [] at hop
  obtain rfl := hop
  go_enter Try.func77, Try.ntmps77
  go_upto_region 1 with fail
  clear hW
  refine wp_region_list ?_
  go_wp2_with fail
  refine HP.out.mono ?_
  rintro e w1 ⟨rfl, hb1⟩
  have HB1 := hid_of hb1
  have HF : Hid (Calls Try.prog 86 #[.pointer (some ⟨pb, o, none⟩), .int .u32 pc] w1 fun e w' => e = .returned (.int .u32 x) ∧ w' = w1) := by
    rw [← HX.out]
    obtain ⟨q1, q2, q3, q4, q5, q6, q7⟩ := H0.out
    have b2 : Below w.heap.size w w1 := q1.trans (hb1.mono q1.size)
    have c2 : w1.cell? ⟨pb, o + 2, none⟩ = some (.slice a n cap) := by
      have := q3.c2; simp only [World.cell?] at this ⊢; rw [b2.block _ hplt]; exact this
    exact fetch_any pb o a n cap prog q7 hn6 pc HPW.out w1 c2 (q5.same fun k hk => b2.block k (q5.lt k hk))
  have HDE : Hid (Calls Try.prog 85 #[.int .u32 x] w1 fun e w' => e = .returned (.agg #[.int .u8 10, .int .i64 (rd : Nat), .int .i64 (ra : Nat), .int .i64 (rb : Nat), .int .u32 i12, .int .u32 i16]) ∧ Below w1.heap.size w1 w') := by
    have := decode_any x HXW.out w1
    rw [HI.out] at this
    exact this
  clear hb1 HP
  go_upto_region 2 with fail
  refine wp_region_list ?_
  go_wp2_with fail
  refine HF.out.mono ?_
  rintro e w2 ⟨rfl, hw2⟩
  obtain rfl := hw2.symm
  go_wp2_with fail
  refine HDE.out.mono ?_
  rintro e w2 ⟨rfl, hb2⟩
  have HB2 := hid_of hb2
  clear hb2 HF HDE
  obtain ⟨W3, hW3⟩ : ∃ W3, (w2.alloc (.cells #[.int .u8 10, .int .i64 (rd : Nat), .int .i64 (ra : Nat), .int .i64 (rb : Nat), .int .u32 i12, .int .u32 i16] 132)).alloc (.cells #[.int .u32 0, .int .u32 0, .int .u32 0] 49) = W3 := ⟨_, rfl⟩
  have hX : XR w W3 pb o bb cb base fv a n cap w.heap.size w2.heap.size (w2.heap.size + 1) #[.int .u32 0, .int .u32 0, .int .u32 0] #[.int .u8 10, .int .i64 (rd : Nat), .int .i64 (ra : Nat), .int .i64 (rb : Nat), .int .u32 i12, .int .u32 i16] #[.int .u32 0, .int .u32 0, .int .u32 0] B := by
    obtain ⟨q1, q2, q3, q4, q5, q6, q7⟩ := H0.out
    rw [← hW3]
    exact xr_start q1 q2 q3 q4 q6 HB1.out HB2.out _
  have c0 : W3.cell? ⟨w2.heap.size, 0, none⟩ = some (.int .u8 10) := hX.hi.cell 0
  have c1 : W3.cell? ⟨w2.heap.size, 1, none⟩ = some (.int .i64 (rd : Nat)) := hX.hi.cell 1
  have c2 : W3.cell? ⟨w2.heap.size, 2, none⟩ = some (.int .i64 (ra : Nat)) := hX.hi.cell 2
  have c3 : W3.cell? ⟨w2.heap.size, 3, none⟩ = some (.int .i64 (rb : Nat)) := hX.hi.cell 3
  have c4 : W3.cell? ⟨w2.heap.size, 4, none⟩ = some (.int .u32 i12) := hX.hi.cell 4
  have c5 : W3.cell? ⟨w2.heap.size, 5, none⟩ = some (.int .u32 i16) := hX.hi.cell 5
  have HXR := hid_of hX
  have hrd : rd < 16 := HD.out.1.1
  have hra : ra < 16 := HD.out.1.2.1
  have hrb : rb < 16 := HD.out.1.2.2
  have hi12 : W32 i12 := HD.out.2.1.1
  have hi16 : W32 i16 := HD.out.2.1.2
  clear hX HD HB1 HB2 H0 HX HXW HI
  go_upto_region 31 with fail
  clear hW3
  clear c0 c1 c2 c3 c4 c5
  refine wp_region_float [0, 1, 2, 3, 4, 5, 6, 7, 9, 10, 11] [8, 12, 13, 14] [0, 1, 3, 5, 6, 9, 10] mixed (fun ω => Blk ω w2.heap.size #[.int .u8 10, .int .i64 (rd : Nat), .int .i64 (ra : Nat), .int .i64 (rb : Nat), .int .u32 i12, .int .u32 i16] 132) (by kernel_rfl) rfl (by kernel_rfl) HXR.out.drew.hi ?_
  refine wpFl_op _ _ _ _ rfl rfl (fun ω hj => by go_simp; rfl) ?_
  refine wpFl_op _ _ _ _ rfl rfl (fun ω hj => by go_simp; rfl) ?_
  refine wpFl_op _ _ _ _ rfl rfl (fun ω hj => by have q : ω.cell? ⟨w2.heap.size, 1, none⟩ = some (.int .i64 (rd : Nat)) := Blk.cell (hj rfl) 1; go_simp; rfl) ?_
  refine wpFl_op _ _ _ _ rfl rfl (fun ω hj => by go_simp; rfl) ?_
  refine wpFl_op _ _ _ _ rfl rfl (fun ω hj => by have q : ω.cell? ⟨w2.heap.size, 0, none⟩ = some (.int .u8 10) := Blk.cell (hj rfl) 0; go_simp; rfl) ?_
  refine wpFl_op _ _ _ _ rfl rfl (fun ω hj => by go_simp; rfl) ?_
  refine wpFl_op _ _ _ _ rfl rfl (fun ω hj => by go_simp; rfl) ?_
  refine wpFl_op _ _ _ _ rfl rfl (fun ω hj => by have q : ω.cell? ⟨w2.heap.size, 2, none⟩ = some (.int .i64 (ra : Nat)) := Blk.cell (hj rfl) 2; go_simp; rfl) ?_
  refine wpFl_op _ _ _ _ rfl rfl (fun ω hj => by go_simp; rfl) ?_
  refine wpFl_op _ _ _ _ rfl rfl (fun ω hj => by go_simp; rfl) ?_
  refine wpFl_op _ _ _ _ rfl rfl (fun ω hj => by have q : ω.cell? ⟨w2.heap.size, 3, none⟩ = some (.int .i64 (rb : Nat)) := Blk.cell (hj rfl) 3; go_simp; rfl) ?_
  refine wpFl_nil _ _ ?_
  simp only [Act.put, List.setIfInBounds_toArray]
  have HX4 : Hid (XR w W3.drew pb o bb cb base fv a n cap w.heap.size w2.heap.size (w2.heap.size + 1) #[.int .u32 0, .int .u32 0, .int .u32 0] #[.int .u8 10, .int .i64 (rd : Nat), .int .i64 (ra : Nat), .int .i64 (rb : Nat), .int .u32 i12, .int .u32 i16] #[.int .u32 0, .int .u32 0, .int .u32 0] (B)) := HXR.out.drew
  clear HXR
  refine wpCh_one _ _ _ _ rfl ?_
  have HG := hid_of (reg_any pb o bb cb base ra hra hb fv _ (B) W3.drew HX4.out.cr HX4.out.br)
  go_wp2_with fail
  refine HG.out.mono ?_
  rintro e v5 ⟨rfl, hb5⟩
  have HX5 : Hid (XR w v5 pb o bb cb base fv a n cap w.heap.size w2.heap.size (w2.heap.size + 1) #[.int .u32 0, .int .u32 0, .int .u32 0] #[.int .u8 10, .int .i64 (rd : Nat), .int .i64 (ra : Nat), .int .i64 (rb : Nat), .int .u32 i12, .int .u32 i16] #[.int .u32 0, .int .u32 0, .int .u32 0] (B)) := HX4.out.below hb5
  clear hb5 HG HX4
  go_wp2_with fail
  refine ⟨HX5.out.hi, ?_⟩
  refine wpCh_one _ _ _ _ rfl ?_
  have HG := hid_of (reg_any pb o bb cb base rb hrb hb fv _ (B) v5 HX5.out.cr HX5.out.br)
  go_wp2_with fail
  refine HG.out.mono ?_
  rintro e v6 ⟨rfl, hb6⟩
  have HX6 : Hid (XR w v6 pb o bb cb base fv a n cap w.heap.size w2.heap.size (w2.heap.size + 1) #[.int .u32 0, .int .u32 0, .int .u32 0] #[.int .u8 10, .int .i64 (rd : Nat), .int .i64 (ra : Nat), .int .i64 (rb : Nat), .int .u32 i12, .int .u32 i16] #[.int .u32 0, .int .u32 0, .int .u32 0] (B)) := HX5.out.below hb6
  clear hb6 HG HX5
  go_wp2_with fail
  refine ⟨HX6.out.hi, ?_⟩
  refine wpCh_one _ _ _ _ rfl ?_
  have HA := hid_of (alu_any 10 (B.get (base + ra)) (B.get (base + rb)) (by unfold isAlu; decide) (HOK.out.get _) (HOK.out.get _) v6)
  go_wp2_with fail
  refine HA.out.mono ?_
  rintro e v99 ⟨rfl, hw99⟩
  obtain rfl := hw99.symm
  clear HA
  go_wp2_with fail
  refine ⟨HX6.out.hi, ?_⟩
  refine wpCh_rest _ _ _ _ [_] _ _ rfl (by kernel_rfl) ?_
  simp only [List.getElem_toArray, List.getElem_cons_succ, List.getElem_cons_zero]
  have HS := hid_of (setReg_any pb o bb cb base rd hrd hb fv _ (B) (aluF 10 (B.get (base + ra)) (B.get (base + rb))) v6 HX6.out.cr HX6.out.br)
  go_wp2_with fail
  refine HS.out.mono ?_
  rintro e v8 ⟨rfl, u8, hb8, hw8⟩
  have HX8 : Hid (XR w v8 pb o bb cb base fv a n cap w.heap.size w2.heap.size (w2.heap.size + 1) #[.int .u32 0, .int .u32 0, .int .u32 0] #[.int .u8 10, .int .i64 (rd : Nat), .int .i64 (ra : Nat), .int .i64 (rb : Nat), .int .u32 i12, .int .u32 i16] #[.int .u32 0, .int .u32 0, .int .u32 0] ((B).set (base + rd) (aluF 10 (B.get (base + ra)) (B.get (base + rb))))) := by
    rw [hw8]; exact HX6.out.set hb8 _ _
  clear hb8 hw8 HS HX6
  have HS := hid_of (setPC_any pb o bb cb base hb fv _ ((B).set (base + rd) (aluF 10 (B.get (base + ra)) (B.get (base + rb)))) ((pc + 1) % 4294967296) v8 HX8.out.cr HX8.out.br)
  go_wp2_with fail
  refine HS.out.mono ?_
  rintro e v10 ⟨rfl, u10, hb10, hw10⟩
  have HX10 : Hid (XR w v10 pb o bb cb base fv a n cap w.heap.size w2.heap.size (w2.heap.size + 1) #[.int .u32 0, .int .u32 0, .int .u32 0] #[.int .u8 10, .int .i64 (rd : Nat), .int .i64 (ra : Nat), .int .i64 (rb : Nat), .int .u32 i12, .int .u32 i16] #[.int .u32 0, .int .u32 0, .int .u32 0] (((B).set (base + rd) (aluF 10 (B.get (base + ra)) (B.get (base + rb)))).set (base + 16) ((pc + 1) % 4294967296))) := by
    rw [hw10]; exact HX8.out.set hb10 _ _
  clear hb10 hw10 HS HX8
  have d0 : v10.cell? ⟨w2.heap.size + 1, 0, none⟩ = some (#[.int .u32 0, .int .u32 0, .int .u32 0][0]) := HX10.out.ho.cell 0
  have d1 : v10.cell? ⟨w2.heap.size + 1, 1, none⟩ = some (#[.int .u32 0, .int .u32 0, .int .u32 0][1]) := HX10.out.ho.cell 1
  have d2 : v10.cell? ⟨w2.heap.size + 1, 2, none⟩ = some (#[.int .u32 0, .int .u32 0, .int .u32 0][2]) := HX10.out.ho.cell 2
  simp only [List.getElem_toArray, List.getElem_cons_succ, List.getElem_cons_zero] at d0 d1 d2
  obtain ⟨w9, hw9, hl9⟩ := HX10.out.hr.out
  have HFIN : Hid (Tn w (put w9 w.heap.size #[.int .u32 0, .int .u32 0, .int .u32 0] 49) cb (((B).set (base + rd) (aluF 10 (B.get (base + ra)) (B.get (base + rb)))).set (base + 16) ((pc + 1) % 4294967296)).c) := by
    have := HX10.out.ret w.heap.size (Nat.le_refl _) #[.int .u32 0, .int .u32 0, .int .u32 0] 49
    rw [hw9, put_put] at this
    exact this
  clear HX10
  subst hw9
  go_wp2_with fail
  exact bodyPost_ret (v := .agg #[.int .u32 0, .int .u32 0, .int .u32 0]) (results_cell_row (by rfl) _ _ w.heap.size 49 _ (0, 0) _ (by rfl) (Blk.put_same hl9) Try.underlying49 rfl (by rw [size49]; rfl)) rfl ⟨by rw [hE.out]; rfl, by rw [hE.out]; exact HFIN.out⟩
set_option linter.unusedVariables false in
set_option maxRecDepth 100000 in
set_option maxHeartbeats 4000000 in
theorem ex_11 (pb o bb cb base : Nat) (hb : base ≤ 18) (fv : Value) (a : Option Addr) (n cap : Nat) (prog : List Int) (hn : prog.length = n) (hn6 : n ≤ 64) (hpr : ∀ x ∈ prog, W32 x) (B : BD) (hB : B.Ok) (w : World) (hc : CR w pb o bb base (.slice a n cap)) (h : BR w bb cb fv B) (hS : Sl w (.slice a n cap) 30 1 n (prow prog)) (hpc : pb ≠ cb)
    (hop : (decF (fetF prog (B.get (base + 16)))).op = 11) :
    Calls Try.prog 77 #[.pointer (some ⟨pb, o, none⟩)] w fun e w' => e = .returned (.agg (buV (execF prog base B).2)) ∧ Tn w w' cb (execF prog base B).1.c := by
  have hpcw := hB.get (base + 16)
  obtain ⟨pc, hpcd⟩ : ∃ pc, B.get (base + 16) = pc := ⟨_, rfl⟩
  have hfw : W32 (fetF prog pc) := fetF_w32 hpr pc (by rw [hpcd] at hpcw; exact hpcw)
  obtain ⟨x, hx⟩ : ∃ x, fetF prog pc = x := ⟨_, rfl⟩
  have hdec := decF_ok x (by rw [← hx]; exact hfw)
  rw [hpcd, hx] at hop
  have hE : Hid (execF prog base B = execI base pc (decF x) B) := by unfold Hid execF; rw [hpcd, hx]
  obtain ⟨W, hW⟩ : ∃ W, w.alloc (.cells #[.int .u32 0, .int .u32 0, .int .u32 0] 49) = W := ⟨_, rfl⟩
  have hbel : Below w.heap.size w W := by rw [← hW]; exact (Below.refl _ _).alloc (Nat.le_refl _) _
  have hbn : Blk W w.heap.size #[.int .u32 0, .int .u32 0, .int .u32 0] 49 := by rw [← hW]; exact Blk.new _ _ _
  have hc1 : CR W pb o bb base (.slice a n cap) := by rw [← hW]; exact ⟨ca1 _ _ _ _ hc.c0, ca1 _ _ _ _ hc.c1, ca1 _ _ _ _ hc.c2⟩
  have hB1 := h.below hbel
  have HP := hid_of (pc_any pb o bb cb base hb fv _ B W hc1 hB1)
  rw [hpcd] at HP
  have H0 := hid_of (And.intro hbel (And.intro hbn (And.intro hc (And.intro h (And.intro hS (And.intro hpc hn))))))
  have HD := hid_of hdec
  have hplt := World.block_lt_of_cell? _ _ hc.c0
  have hclt := h.cel.lt
  have HOK := hid_of hB
  have HPW : Hid (W32 pc) := by rw [← hpcd]; exact hpcw
  have HXW : Hid (W32 x) := by rw [← hx]; exact hfw
  have HX := hid_of hx
  have HGET := hid_of hpcd
  clear hc h hbn hbel hc1 hB1 hdec hS hpc hn hB hpr hpcw hfw hx hpcd
  obtain ⟨I, hI⟩ : ∃ I, decF x = I := ⟨_, rfl⟩
  rw [hI] at hop hE HD
  have HI := hid_of hI
  clear hI
  obtain ⟨op, rd, ra, rb, i12, i16⟩ := I
  simp only [] at hop
  obtain rfl := hop
  go_enter Try.func77, Try.ntmps77
  go_upto_region 1 with fail
  clear hW
  refine wp_region_list ?_
  go_wp2_with fail
  refine HP.out.mono ?_
  rintro e w1 ⟨rfl, hb1⟩
  have HB1 := hid_of hb1
  have HF : Hid (Calls Try.prog 86 #[.pointer (some ⟨pb, o, none⟩), .int .u32 pc] w1 fun e w' => e = .returned (.int .u32 x) ∧ w' = w1) := by
    rw [← HX.out]
    obtain ⟨q1, q2, q3, q4, q5, q6, q7⟩ := H0.out
    have b2 : Below w.heap.size w w1 := q1.trans (hb1.mono q1.size)
    have c2 : w1.cell? ⟨pb, o + 2, none⟩ = some (.slice a n cap) := by
      have := q3.c2; simp only [World.cell?] at this ⊢; rw [b2.block _ hplt]; exact this
    exact fetch_any pb o a n cap prog q7 hn6 pc HPW.out w1 c2 (q5.same fun k hk => b2.block k (q5.lt k hk))
  have HDE : Hid (Calls Try.prog 85 #[.int .u32 x] w1 fun e w' => e = .returned (.agg #[.int .u8 11, .int .i64 (rd : Nat), .int .i64 (ra : Nat), .int .i64 (rb : Nat), .int .u32 i12, .int .u32 i16]) ∧ Below w1.heap.size w1 w') := by
    have := decode_any x HXW.out w1
    rw [HI.out] at this
    exact this
  clear hb1 HP
  go_upto_region 2 with fail
  refine wp_region_list ?_
  go_wp2_with fail
  refine HF.out.mono ?_
  rintro e w2 ⟨rfl, hw2⟩
  obtain rfl := hw2.symm
  go_wp2_with fail
  refine HDE.out.mono ?_
  rintro e w2 ⟨rfl, hb2⟩
  have HB2 := hid_of hb2
  clear hb2 HF HDE
  obtain ⟨W3, hW3⟩ : ∃ W3, (w2.alloc (.cells #[.int .u8 11, .int .i64 (rd : Nat), .int .i64 (ra : Nat), .int .i64 (rb : Nat), .int .u32 i12, .int .u32 i16] 132)).alloc (.cells #[.int .u32 0, .int .u32 0, .int .u32 0] 49) = W3 := ⟨_, rfl⟩
  have hX : XR w W3 pb o bb cb base fv a n cap w.heap.size w2.heap.size (w2.heap.size + 1) #[.int .u32 0, .int .u32 0, .int .u32 0] #[.int .u8 11, .int .i64 (rd : Nat), .int .i64 (ra : Nat), .int .i64 (rb : Nat), .int .u32 i12, .int .u32 i16] #[.int .u32 0, .int .u32 0, .int .u32 0] B := by
    obtain ⟨q1, q2, q3, q4, q5, q6, q7⟩ := H0.out
    rw [← hW3]
    exact xr_start q1 q2 q3 q4 q6 HB1.out HB2.out _
  have c0 : W3.cell? ⟨w2.heap.size, 0, none⟩ = some (.int .u8 11) := hX.hi.cell 0
  have c1 : W3.cell? ⟨w2.heap.size, 1, none⟩ = some (.int .i64 (rd : Nat)) := hX.hi.cell 1
  have c2 : W3.cell? ⟨w2.heap.size, 2, none⟩ = some (.int .i64 (ra : Nat)) := hX.hi.cell 2
  have c3 : W3.cell? ⟨w2.heap.size, 3, none⟩ = some (.int .i64 (rb : Nat)) := hX.hi.cell 3
  have c4 : W3.cell? ⟨w2.heap.size, 4, none⟩ = some (.int .u32 i12) := hX.hi.cell 4
  have c5 : W3.cell? ⟨w2.heap.size, 5, none⟩ = some (.int .u32 i16) := hX.hi.cell 5
  have HXR := hid_of hX
  have hrd : rd < 16 := HD.out.1.1
  have hra : ra < 16 := HD.out.1.2.1
  have hrb : rb < 16 := HD.out.1.2.2
  have hi12 : W32 i12 := HD.out.2.1.1
  have hi16 : W32 i16 := HD.out.2.1.2
  clear hX HD HB1 HB2 H0 HX HXW HI
  go_upto_region 31 with fail
  clear hW3
  clear c0 c1 c2 c3 c4 c5
  refine wp_region_float [0, 1, 2, 3, 4, 5, 6, 7, 9, 10, 11] [8, 12, 13, 14] [0, 1, 3, 5, 6, 9, 10] mixed (fun ω => Blk ω w2.heap.size #[.int .u8 11, .int .i64 (rd : Nat), .int .i64 (ra : Nat), .int .i64 (rb : Nat), .int .u32 i12, .int .u32 i16] 132) (by kernel_rfl) rfl (by kernel_rfl) HXR.out.drew.hi ?_
  refine wpFl_op _ _ _ _ rfl rfl (fun ω hj => by go_simp; rfl) ?_
  refine wpFl_op _ _ _ _ rfl rfl (fun ω hj => by go_simp; rfl) ?_
  refine wpFl_op _ _ _ _ rfl rfl (fun ω hj => by have q : ω.cell? ⟨w2.heap.size, 1, none⟩ = some (.int .i64 (rd : Nat)) := Blk.cell (hj rfl) 1; go_simp; rfl) ?_
  refine wpFl_op _ _ _ _ rfl rfl (fun ω hj => by go_simp; rfl) ?_
  refine wpFl_op _ _ _ _ rfl rfl (fun ω hj => by have q : ω.cell? ⟨w2.heap.size, 0, none⟩ = some (.int .u8 11) := Blk.cell (hj rfl) 0; go_simp; rfl) ?_
  refine wpFl_op _ _ _ _ rfl rfl (fun ω hj => by go_simp; rfl) ?_
  refine wpFl_op _ _ _ _ rfl rfl (fun ω hj => by go_simp; rfl) ?_
  refine wpFl_op _ _ _ _ rfl rfl (fun ω hj => by have q : ω.cell? ⟨w2.heap.size, 2, none⟩ = some (.int .i64 (ra : Nat)) := Blk.cell (hj rfl) 2; go_simp; rfl) ?_
  refine wpFl_op _ _ _ _ rfl rfl (fun ω hj => by go_simp; rfl) ?_
  refine wpFl_op _ _ _ _ rfl rfl (fun ω hj => by go_simp; rfl) ?_
  refine wpFl_op _ _ _ _ rfl rfl (fun ω hj => by have q : ω.cell? ⟨w2.heap.size, 3, none⟩ = some (.int .i64 (rb : Nat)) := Blk.cell (hj rfl) 3; go_simp; rfl) ?_
  refine wpFl_nil _ _ ?_
  simp only [Act.put, List.setIfInBounds_toArray]
  have HX4 : Hid (XR w W3.drew pb o bb cb base fv a n cap w.heap.size w2.heap.size (w2.heap.size + 1) #[.int .u32 0, .int .u32 0, .int .u32 0] #[.int .u8 11, .int .i64 (rd : Nat), .int .i64 (ra : Nat), .int .i64 (rb : Nat), .int .u32 i12, .int .u32 i16] #[.int .u32 0, .int .u32 0, .int .u32 0] (B)) := HXR.out.drew
  clear HXR
  refine wpCh_one _ _ _ _ rfl ?_
  have HG := hid_of (reg_any pb o bb cb base ra hra hb fv _ (B) W3.drew HX4.out.cr HX4.out.br)
  go_wp2_with fail
  refine HG.out.mono ?_
  rintro e v5 ⟨rfl, hb5⟩
  have HX5 : Hid (XR w v5 pb o bb cb base fv a n cap w.heap.size w2.heap.size (w2.heap.size + 1) #[.int .u32 0, .int .u32 0, .int .u32 0] #[.int .u8 11, .int .i64 (rd : Nat), .int .i64 (ra : Nat), .int .i64 (rb : Nat), .int .u32 i12, .int .u32 i16] #[.int .u32 0, .int .u32 0, .int .u32 0] (B)) := HX4.out.below hb5
  clear hb5 HG HX4
  go_wp2_with fail
  refine ⟨HX5.out.hi, ?_⟩
  refine wpCh_one _ _ _ _ rfl ?_
  have HG := hid_of (reg_any pb o bb cb base rb hrb hb fv _ (B) v5 HX5.out.cr HX5.out.br)
  go_wp2_with fail
  refine HG.out.mono ?_
  rintro e v6 ⟨rfl, hb6⟩
  have HX6 : Hid (XR w v6 pb o bb cb base fv a n cap w.heap.size w2.heap.size (w2.heap.size + 1) #[.int .u32 0, .int .u32 0, .int .u32 0] #[.int .u8 11, .int .i64 (rd : Nat), .int .i64 (ra : Nat), .int .i64 (rb : Nat), .int .u32 i12, .int .u32 i16] #[.int .u32 0, .int .u32 0, .int .u32 0] (B)) := HX5.out.below hb6
  clear hb6 HG HX5
  go_wp2_with fail
  refine ⟨HX6.out.hi, ?_⟩
  refine wpCh_one _ _ _ _ rfl ?_
  have HA := hid_of (alu_any 11 (B.get (base + ra)) (B.get (base + rb)) (by unfold isAlu; decide) (HOK.out.get _) (HOK.out.get _) v6)
  go_wp2_with fail
  refine HA.out.mono ?_
  rintro e v99 ⟨rfl, hw99⟩
  obtain rfl := hw99.symm
  clear HA
  go_wp2_with fail
  refine ⟨HX6.out.hi, ?_⟩
  refine wpCh_rest _ _ _ _ [_] _ _ rfl (by kernel_rfl) ?_
  simp only [List.getElem_toArray, List.getElem_cons_succ, List.getElem_cons_zero]
  have HS := hid_of (setReg_any pb o bb cb base rd hrd hb fv _ (B) (aluF 11 (B.get (base + ra)) (B.get (base + rb))) v6 HX6.out.cr HX6.out.br)
  go_wp2_with fail
  refine HS.out.mono ?_
  rintro e v8 ⟨rfl, u8, hb8, hw8⟩
  have HX8 : Hid (XR w v8 pb o bb cb base fv a n cap w.heap.size w2.heap.size (w2.heap.size + 1) #[.int .u32 0, .int .u32 0, .int .u32 0] #[.int .u8 11, .int .i64 (rd : Nat), .int .i64 (ra : Nat), .int .i64 (rb : Nat), .int .u32 i12, .int .u32 i16] #[.int .u32 0, .int .u32 0, .int .u32 0] ((B).set (base + rd) (aluF 11 (B.get (base + ra)) (B.get (base + rb))))) := by
    rw [hw8]; exact HX6.out.set hb8 _ _
  clear hb8 hw8 HS HX6
  have HS := hid_of (setPC_any pb o bb cb base hb fv _ ((B).set (base + rd) (aluF 11 (B.get (base + ra)) (B.get (base + rb)))) ((pc + 1) % 4294967296) v8 HX8.out.cr HX8.out.br)
  go_wp2_with fail
  refine HS.out.mono ?_
  rintro e v10 ⟨rfl, u10, hb10, hw10⟩
  have HX10 : Hid (XR w v10 pb o bb cb base fv a n cap w.heap.size w2.heap.size (w2.heap.size + 1) #[.int .u32 0, .int .u32 0, .int .u32 0] #[.int .u8 11, .int .i64 (rd : Nat), .int .i64 (ra : Nat), .int .i64 (rb : Nat), .int .u32 i12, .int .u32 i16] #[.int .u32 0, .int .u32 0, .int .u32 0] (((B).set (base + rd) (aluF 11 (B.get (base + ra)) (B.get (base + rb)))).set (base + 16) ((pc + 1) % 4294967296))) := by
    rw [hw10]; exact HX8.out.set hb10 _ _
  clear hb10 hw10 HS HX8
  have d0 : v10.cell? ⟨w2.heap.size + 1, 0, none⟩ = some (#[.int .u32 0, .int .u32 0, .int .u32 0][0]) := HX10.out.ho.cell 0
  have d1 : v10.cell? ⟨w2.heap.size + 1, 1, none⟩ = some (#[.int .u32 0, .int .u32 0, .int .u32 0][1]) := HX10.out.ho.cell 1
  have d2 : v10.cell? ⟨w2.heap.size + 1, 2, none⟩ = some (#[.int .u32 0, .int .u32 0, .int .u32 0][2]) := HX10.out.ho.cell 2
  simp only [List.getElem_toArray, List.getElem_cons_succ, List.getElem_cons_zero] at d0 d1 d2
  obtain ⟨w9, hw9, hl9⟩ := HX10.out.hr.out
  have HFIN : Hid (Tn w (put w9 w.heap.size #[.int .u32 0, .int .u32 0, .int .u32 0] 49) cb (((B).set (base + rd) (aluF 11 (B.get (base + ra)) (B.get (base + rb)))).set (base + 16) ((pc + 1) % 4294967296)).c) := by
    have := HX10.out.ret w.heap.size (Nat.le_refl _) #[.int .u32 0, .int .u32 0, .int .u32 0] 49
    rw [hw9, put_put] at this
    exact this
  clear HX10
  subst hw9
  go_wp2_with fail
  exact bodyPost_ret (v := .agg #[.int .u32 0, .int .u32 0, .int .u32 0]) (results_cell_row (by rfl) _ _ w.heap.size 49 _ (0, 0) _ (by rfl) (Blk.put_same hl9) Try.underlying49 rfl (by rw [size49]; rfl)) rfl ⟨by rw [hE.out]; rfl, by rw [hE.out]; exact HFIN.out⟩
set_option linter.unusedVariables false in
set_option maxRecDepth 100000 in
set_option maxHeartbeats 4000000 in
theorem ex_12 (pb o bb cb base : Nat) (hb : base ≤ 18) (fv : Value) (a : Option Addr) (n cap : Nat) (prog : List Int) (hn : prog.length = n) (hn6 : n ≤ 64) (hpr : ∀ x ∈ prog, W32 x) (B : BD) (hB : B.Ok) (w : World) (hc : CR w pb o bb base (.slice a n cap)) (h : BR w bb cb fv B) (hS : Sl w (.slice a n cap) 30 1 n (prow prog)) (hpc : pb ≠ cb)
    (hop : (decF (fetF prog (B.get (base + 16)))).op = 12) :
    Calls Try.prog 77 #[.pointer (some ⟨pb, o, none⟩)] w fun e w' => e = .returned (.agg (buV (execF prog base B).2)) ∧ Tn w w' cb (execF prog base B).1.c := by
  have hpcw := hB.get (base + 16)
  obtain ⟨pc, hpcd⟩ : ∃ pc, B.get (base + 16) = pc := ⟨_, rfl⟩
  have hfw : W32 (fetF prog pc) := fetF_w32 hpr pc (by rw [hpcd] at hpcw; exact hpcw)
  obtain ⟨x, hx⟩ : ∃ x, fetF prog pc = x := ⟨_, rfl⟩
  have hdec := decF_ok x (by rw [← hx]; exact hfw)
  rw [hpcd, hx] at hop
  have hE : Hid (execF prog base B = execI base pc (decF x) B) := by unfold Hid execF; rw [hpcd, hx]
  obtain ⟨W, hW⟩ : ∃ W, w.alloc (.cells #[.int .u32 0, .int .u32 0, .int .u32 0] 49) = W := ⟨_, rfl⟩
  have hbel : Below w.heap.size w W := by rw [← hW]; exact (Below.refl _ _).alloc (Nat.le_refl _) _
  have hbn : Blk W w.heap.size #[.int .u32 0, .int .u32 0, .int .u32 0] 49 := by rw [← hW]; exact Blk.new _ _ _
  have hc1 : CR W pb o bb base (.slice a n cap) := by rw [← hW]; exact ⟨ca1 _ _ _ _ hc.c0, ca1 _ _ _ _ hc.c1, ca1 _ _ _ _ hc.c2⟩
  have hB1 := h.below hbel
  have HP := hid_of (pc_any pb o bb cb base hb fv _ B W hc1 hB1)
  rw [hpcd] at HP
  have H0 := hid_of (And.intro hbel (And.intro hbn (And.intro hc (And.intro h (And.intro hS (And.intro hpc hn))))))
  have HD := hid_of hdec
  have hplt := World.block_lt_of_cell? _ _ hc.c0
  have hclt := h.cel.lt
  have HOK := hid_of hB
  have HPW : Hid (W32 pc) := by rw [← hpcd]; exact hpcw
  have HXW : Hid (W32 x) := by rw [← hx]; exact hfw
  have HX := hid_of hx
  have HGET := hid_of hpcd
  clear hc h hbn hbel hc1 hB1 hdec hS hpc hn hB hpr hpcw hfw hx hpcd
  obtain ⟨I, hI⟩ : ∃ I, decF x = I := ⟨_, rfl⟩
  rw [hI] at hop hE HD
  have HI := hid_of hI
  clear hI
  obtain ⟨op, rd, ra, rb, i12, i16⟩ := I
  simp only [] at hop
  obtain rfl := hop
  go_enter Try.func77, Try.ntmps77
  go_upto_region 1 with fail
  clear hW
  refine wp_region_list ?_
  go_wp2_with fail
  refine HP.out.mono ?_
  rintro e w1 ⟨rfl, hb1⟩
  have HB1 := hid_of hb1
  have HF : Hid (Calls Try.prog 86 #[.pointer (some ⟨pb, o, none⟩), .int .u32 pc] w1 fun e w' => e = .returned (.int .u32 x) ∧ w' = w1) := by
    rw [← HX.out]
    obtain ⟨q1, q2, q3, q4, q5, q6, q7⟩ := H0.out
    have b2 : Below w.heap.size w w1 := q1.trans (hb1.mono q1.size)
    have c2 : w1.cell? ⟨pb, o + 2, none⟩ = some (.slice a n cap) := by
      have := q3.c2; simp only [World.cell?] at this ⊢; rw [b2.block _ hplt]; exact this
    exact fetch_any pb o a n cap prog q7 hn6 pc HPW.out w1 c2 (q5.same fun k hk => b2.block k (q5.lt k hk))
  have HDE : Hid (Calls Try.prog 85 #[.int .u32 x] w1 fun e w' => e = .returned (.agg #[.int .u8 12, .int .i64 (rd : Nat), .int .i64 (ra : Nat), .int .i64 (rb : Nat), .int .u32 i12, .int .u32 i16]) ∧ Below w1.heap.size w1 w') := by
    have := decode_any x HXW.out w1
    rw [HI.out] at this
    exact this
  clear hb1 HP
  go_upto_region 2 with fail
  refine wp_region_list ?_
  go_wp2_with fail
  refine HF.out.mono ?_
  rintro e w2 ⟨rfl, hw2⟩
  obtain rfl := hw2.symm
  go_wp2_with fail
  refine HDE.out.mono ?_
  rintro e w2 ⟨rfl, hb2⟩
  have HB2 := hid_of hb2
  clear hb2 HF HDE
  obtain ⟨W3, hW3⟩ : ∃ W3, (w2.alloc (.cells #[.int .u8 12, .int .i64 (rd : Nat), .int .i64 (ra : Nat), .int .i64 (rb : Nat), .int .u32 i12, .int .u32 i16] 132)).alloc (.cells #[.int .u32 0, .int .u32 0, .int .u32 0] 49) = W3 := ⟨_, rfl⟩
  have hX : XR w W3 pb o bb cb base fv a n cap w.heap.size w2.heap.size (w2.heap.size + 1) #[.int .u32 0, .int .u32 0, .int .u32 0] #[.int .u8 12, .int .i64 (rd : Nat), .int .i64 (ra : Nat), .int .i64 (rb : Nat), .int .u32 i12, .int .u32 i16] #[.int .u32 0, .int .u32 0, .int .u32 0] B := by
    obtain ⟨q1, q2, q3, q4, q5, q6, q7⟩ := H0.out
    rw [← hW3]
    exact xr_start q1 q2 q3 q4 q6 HB1.out HB2.out _
  have c0 : W3.cell? ⟨w2.heap.size, 0, none⟩ = some (.int .u8 12) := hX.hi.cell 0
  have c1 : W3.cell? ⟨w2.heap.size, 1, none⟩ = some (.int .i64 (rd : Nat)) := hX.hi.cell 1
  have c2 : W3.cell? ⟨w2.heap.size, 2, none⟩ = some (.int .i64 (ra : Nat)) := hX.hi.cell 2
  have c3 : W3.cell? ⟨w2.heap.size, 3, none⟩ = some (.int .i64 (rb : Nat)) := hX.hi.cell 3
  have c4 : W3.cell? ⟨w2.heap.size, 4, none⟩ = some (.int .u32 i12) := hX.hi.cell 4
  have c5 : W3.cell? ⟨w2.heap.size, 5, none⟩ = some (.int .u32 i16) := hX.hi.cell 5
  have HXR := hid_of hX
  have hrd : rd < 16 := HD.out.1.1
  have hra : ra < 16 := HD.out.1.2.1
  have hrb : rb < 16 := HD.out.1.2.2
  have hi12 : W32 i12 := HD.out.2.1.1
  have hi16 : W32 i16 := HD.out.2.1.2
  clear hX HD HB1 HB2 H0 HX HXW HI
  go_upto_region 31 with fail
  clear hW3
  clear c0 c1 c2 c3 c4 c5
  refine wp_region_float [0, 1, 2, 3, 4, 5, 6, 7, 9, 10, 11] [8, 12, 13, 14] [0, 1, 3, 5, 6, 9, 10] mixed (fun ω => Blk ω w2.heap.size #[.int .u8 12, .int .i64 (rd : Nat), .int .i64 (ra : Nat), .int .i64 (rb : Nat), .int .u32 i12, .int .u32 i16] 132) (by kernel_rfl) rfl (by kernel_rfl) HXR.out.drew.hi ?_
  refine wpFl_op _ _ _ _ rfl rfl (fun ω hj => by go_simp; rfl) ?_
  refine wpFl_op _ _ _ _ rfl rfl (fun ω hj => by go_simp; rfl) ?_
  refine wpFl_op _ _ _ _ rfl rfl (fun ω hj => by have q : ω.cell? ⟨w2.heap.size, 1, none⟩ = some (.int .i64 (rd : Nat)) := Blk.cell (hj rfl) 1; go_simp; rfl) ?_
  refine wpFl_op _ _ _ _ rfl rfl (fun ω hj => by go_simp; rfl) ?_
  refine wpFl_op _ _ _ _ rfl rfl (fun ω hj => by have q : ω.cell? ⟨w2.heap.size, 0, none⟩ = some (.int .u8 12) := Blk.cell (hj rfl) 0; go_simp; rfl) ?_
  refine wpFl_op _ _ _ _ rfl rfl (fun ω hj => by go_simp; rfl) ?_
  refine wpFl_op _ _ _ _ rfl rfl (fun ω hj => by go_simp; rfl) ?_
  refine wpFl_op _ _ _ _ rfl rfl (fun ω hj => by have q : ω.cell? ⟨w2.heap.size, 2, none⟩ = some (.int .i64 (ra : Nat)) := Blk.cell (hj rfl) 2; go_simp; rfl) ?_
  refine wpFl_op _ _ _ _ rfl rfl (fun ω hj => by go_simp; rfl) ?_
  refine wpFl_op _ _ _ _ rfl rfl (fun ω hj => by go_simp; rfl) ?_
  refine wpFl_op _ _ _ _ rfl rfl (fun ω hj => by have q : ω.cell? ⟨w2.heap.size, 3, none⟩ = some (.int .i64 (rb : Nat)) := Blk.cell (hj rfl) 3; go_simp; rfl) ?_
  refine wpFl_nil _ _ ?_
  simp only [Act.put, List.setIfInBounds_toArray]
  have HX4 : Hid (XR w W3.drew pb o bb cb base fv a n cap w.heap.size w2.heap.size (w2.heap.size + 1) #[.int .u32 0, .int .u32 0, .int .u32 0] #[.int .u8 12, .int .i64 (rd : Nat), .int .i64 (ra : Nat), .int .i64 (rb : Nat), .int .u32 i12, .int .u32 i16] #[.int .u32 0, .int .u32 0, .int .u32 0] (B)) := HXR.out.drew
  clear HXR
  refine wpCh_one _ _ _ _ rfl ?_
  have HG := hid_of (reg_any pb o bb cb base ra hra hb fv _ (B) W3.drew HX4.out.cr HX4.out.br)
  go_wp2_with fail
  refine HG.out.mono ?_
  rintro e v5 ⟨rfl, hb5⟩
  have HX5 : Hid (XR w v5 pb o bb cb base fv a n cap w.heap.size w2.heap.size (w2.heap.size + 1) #[.int .u32 0, .int .u32 0, .int .u32 0] #[.int .u8 12, .int .i64 (rd : Nat), .int .i64 (ra : Nat), .int .i64 (rb : Nat), .int .u32 i12, .int .u32 i16] #[.int .u32 0, .int .u32 0, .int .u32 0] (B)) := HX4.out.below hb5
  clear hb5 HG HX4
  go_wp2_with fail
  refine ⟨HX5.out.hi, ?_⟩
  refine wpCh_one _ _ _ _ rfl ?_
  have HG := hid_of (reg_any pb o bb cb base rb hrb hb fv _ (B) v5 HX5.out.cr HX5.out.br)
  go_wp2_with fail
  refine HG.out.mono ?_
  rintro e v6 ⟨rfl, hb6⟩
  have HX6 : Hid (XR w v6 pb o bb cb base fv a n cap w.heap.size w2.heap.size (w2.heap.size + 1) #[.int .u32 0, .int .u32 0, .int .u32 0] #[.int .u8 12, .int .i64 (rd : Nat), .int .i64 (ra : Nat), .int .i64 (rb : Nat), .int .u32 i12, .int .u32 i16] #[.int .u32 0, .int .u32 0, .int .u32 0] (B)) := HX5.out.below hb6
  clear hb6 HG HX5
  go_wp2_with fail
  refine ⟨HX6.out.hi, ?_⟩
  refine wpCh_one _ _ _ _ rfl ?_
  have HA := hid_of (alu_any 12 (B.get (base + ra)) (B.get (base + rb)) (by unfold isAlu; decide) (HOK.out.get _) (HOK.out.get _) v6)
  go_wp2_with fail
  refine HA.out.mono ?_
  rintro e v99 ⟨rfl, hw99⟩
  obtain rfl := hw99.symm
  clear HA
  go_wp2_with fail
  refine ⟨HX6.out.hi, ?_⟩
  refine wpCh_rest _ _ _ _ [_] _ _ rfl (by kernel_rfl) ?_
  simp only [List.getElem_toArray, List.getElem_cons_succ, List.getElem_cons_zero]
  have HS := hid_of (setReg_any pb o bb cb base rd hrd hb fv _ (B) (aluF 12 (B.get (base + ra)) (B.get (base + rb))) v6 HX6.out.cr HX6.out.br)
  go_wp2_with fail
  refine HS.out.mono ?_
  rintro e v8 ⟨rfl, u8, hb8, hw8⟩
  have HX8 : Hid (XR w v8 pb o bb cb base fv a n cap w.heap.size w2.heap.size (w2.heap.size + 1) #[.int .u32 0, .int .u32 0, .int .u32 0] #[.int .u8 12, .int .i64 (rd : Nat), .int .i64 (ra : Nat), .int .i64 (rb : Nat), .int .u32 i12, .int .u32 i16] #[.int .u32 0, .int .u32 0, .int .u32 0] ((B).set (base + rd) (aluF 12 (B.get (base + ra)) (B.get (base + rb))))) := by
    rw [hw8]; exact HX6.out.set hb8 _ _
  clear hb8 hw8 HS HX6
  have HS := hid_of (setPC_any pb o bb cb base hb fv _ ((B).set (base + rd) (aluF 12 (B.get (base + ra)) (B.get (base + rb)))) ((pc + 1) % 4294967296) v8 HX8.out.cr HX8.out.br)
  go_wp2_with fail
  refine HS.out.mono ?_
  rintro e v10 ⟨rfl, u10, hb10, hw10⟩
  have HX10 : Hid (XR w v10 pb o bb cb base fv a n cap w.heap.size w2.heap.size (w2.heap.size + 1) #[.int .u32 0, .int .u32 0, .int .u32 0] #[.int .u8 12, .int .i64 (rd : Nat), .int .i64 (ra : Nat), .int .i64 (rb : Nat), .int .u32 i12, .int .u32 i16] #[.int .u32 0, .int .u32 0, .int .u32 0] (((B).set (base + rd) (aluF 12 (B.get (base + ra)) (B.get (base + rb)))).set (base + 16) ((pc + 1) % 4294967296))) := by
    rw [hw10]; exact HX8.out.set hb10 _ _
  clear hb10 hw10 HS HX8
  have d0 : v10.cell? ⟨w2.heap.size + 1, 0, none⟩ = some (#[.int .u32 0, .int .u32 0, .int .u32 0][0]) := HX10.out.ho.cell 0
  have d1 : v10.cell? ⟨w2.heap.size + 1, 1, none⟩ = some (#[.int .u32 0, .int .u32 0, .int .u32 0][1]) := HX10.out.ho.cell 1
  have d2 : v10.cell? ⟨w2.heap.size + 1, 2, none⟩ = some (#[.int .u32 0, .int .u32 0, .int .u32 0][2]) := HX10.out.ho.cell 2
  simp only [List.getElem_toArray, List.getElem_cons_succ, List.getElem_cons_zero] at d0 d1 d2
  obtain ⟨w9, hw9, hl9⟩ := HX10.out.hr.out
  have HFIN : Hid (Tn w (put w9 w.heap.size #[.int .u32 0, .int .u32 0, .int .u32 0] 49) cb (((B).set (base + rd) (aluF 12 (B.get (base + ra)) (B.get (base + rb)))).set (base + 16) ((pc + 1) % 4294967296)).c) := by
    have := HX10.out.ret w.heap.size (Nat.le_refl _) #[.int .u32 0, .int .u32 0, .int .u32 0] 49
    rw [hw9, put_put] at this
    exact this
  clear HX10
  subst hw9
  go_wp2_with fail
  exact bodyPost_ret (v := .agg #[.int .u32 0, .int .u32 0, .int .u32 0]) (results_cell_row (by rfl) _ _ w.heap.size 49 _ (0, 0) _ (by rfl) (Blk.put_same hl9) Try.underlying49 rfl (by rw [size49]; rfl)) rfl ⟨by rw [hE.out]; rfl, by rw [hE.out]; exact HFIN.out⟩
set_option linter.unusedVariables false in
set_option maxRecDepth 100000 in
set_option maxHeartbeats 4000000 in
theorem ex_15 (pb o bb cb base : Nat) (hb : base ≤ 18) (fv : Value) (a : Option Addr) (n cap : Nat) (prog : List Int) (hn : prog.length = n) (hn6 : n ≤ 64) (hpr : ∀ x ∈ prog, W32 x) (B : BD) (hB : B.Ok) (w : World) (hc : CR w pb o bb base (.slice a n cap)) (h : BR w bb cb fv B) (hS : Sl w (.slice a n cap) 30 1 n (prow prog)) (hpc : pb ≠ cb)
    (hop : (decF (fetF prog (B.get (base + 16)))).op = 15) :
    Calls Try.prog 77 #[.pointer (some ⟨pb, o, none⟩)] w fun e w' => e = .returned (.agg (buV (execF prog base B).2)) ∧ Tn w w' cb (execF prog base B).1.c := by
  have hpcw := hB.get (base + 16)
  obtain ⟨pc, hpcd⟩ : ∃ pc, B.get (base + 16) = pc := ⟨_, rfl⟩
  have hfw : W32 (fetF prog pc) := fetF_w32 hpr pc (by rw [hpcd] at hpcw; exact hpcw)
  obtain ⟨x, hx⟩ : ∃ x, fetF prog pc = x := ⟨_, rfl⟩
  have hdec := decF_ok x (by rw [← hx]; exact hfw)
  rw [hpcd, hx] at hop
  have hE : Hid (execF prog base B = execI base pc (decF x) B) := by unfold Hid execF; rw [hpcd, hx]
  obtain ⟨W, hW⟩ : ∃ W, w.alloc (.cells #[.int .u32 0, .int .u32 0, .int .u32 0] 49) = W := ⟨_, rfl⟩
  have hbel : Below w.heap.size w W := by rw [← hW]; exact (Below.refl _ _).alloc (Nat.le_refl _) _
  have hbn : Blk W w.heap.size #[.int .u32 0, .int .u32 0, .int .u32 0] 49 := by rw [← hW]; exact Blk.new _ _ _
  have hc1 : CR W pb o bb base (.slice a n cap) := by rw [← hW]; exact ⟨ca1 _ _ _ _ hc.c0, ca1 _ _ _ _ hc.c1, ca1 _ _ _ _ hc.c2⟩
  have hB1 := h.below hbel
  have HP := hid_of (pc_any pb o bb cb base hb fv _ B W hc1 hB1)
  rw [hpcd] at HP
  have H0 := hid_of (And.intro hbel (And.intro hbn (And.intro hc (And.intro h (And.intro hS (And.intro hpc hn))))))
  have HD := hid_of hdec
  have hplt := World.block_lt_of_cell? _ _ hc.c0
  have hclt := h.cel.lt
  have HOK := hid_of hB
  have HPW : Hid (W32 pc) := by rw [← hpcd]; exact hpcw
  have HXW : Hid (W32 x) := by rw [← hx]; exact hfw
  have HX := hid_of hx
  have HGET := hid_of hpcd
  clear hc h hbn hbel hc1 hB1 hdec hS hpc hn hB hpr hpcw hfw hx hpcd
  obtain ⟨I, hI⟩ : ∃ I, decF x = I := ⟨_, rfl⟩
  rw [hI] at hop hE HD
  have HI := hid_of hI
  clear hI
  obtain ⟨op, rd, ra, rb, i12, i16⟩ := I
  simp only [] at hop
  obtain rfl := hop
  go_enter Try.func77, Try.ntmps77
  go_upto_region 1 with fail
  clear hW
  refine wp_region_list ?_
  go_wp2_with fail
  refine HP.out.mono ?_
  rintro e w1 ⟨rfl, hb1⟩
  have HB1 := hid_of hb1
  have HF : Hid (Calls Try.prog 86 #[.pointer (some ⟨pb, o, none⟩), .int .u32 pc] w1 fun e w' => e = .returned (.int .u32 x) ∧ w' = w1) := by
    rw [← HX.out]
    obtain ⟨q1, q2, q3, q4, q5, q6, q7⟩ := H0.out
    have b2 : Below w.heap.size w w1 := q1.trans (hb1.mono q1.size)
    have c2 : w1.cell? ⟨pb, o + 2, none⟩ = some (.slice a n cap) := by
      have := q3.c2; simp only [World.cell?] at this ⊢; rw [b2.block _ hplt]; exact this
    exact fetch_any pb o a n cap prog q7 hn6 pc HPW.out w1 c2 (q5.same fun k hk => b2.block k (q5.lt k hk))
  have HDE : Hid (Calls Try.prog 85 #[.int .u32 x] w1 fun e w' => e = .returned (.agg #[.int .u8 15, .int .i64 (rd : Nat), .int .i64 (ra : Nat), .int .i64 (rb : Nat), .int .u32 i12, .int .u32 i16]) ∧ Below w1.heap.size w1 w') := by
    have := decode_any x HXW.out w1
    rw [HI.out] at this
    exact this
  clear hb1 HP
  go_upto_region 2 with fail
  refine wp_region_list ?_
  go_wp2_with fail
  refine HF.out.mono ?_
  rintro e w2 ⟨rfl, hw2⟩
  obtain rfl := hw2.symm
  go_wp2_with fail
  refine HDE.out.mono ?_
  rintro e w2 ⟨rfl, hb2⟩
  have HB2 := hid_of hb2
  clear hb2 HF HDE
  obtain ⟨W3, hW3⟩ : ∃ W3, (w2.alloc (.cells #[.int .u8 15, .int .i64 (rd : Nat), .int .i64 (ra : Nat), .int .i64 (rb : Nat), .int .u32 i12, .int .u32 i16] 132)).alloc (.cells #[.int .u32 0, .int .u32 0, .int .u32 0] 49) = W3 := ⟨_, rfl⟩
  have hX : XR w W3 pb o bb cb base fv a n cap w.heap.size w2.heap.size (w2.heap.size + 1) #[.int .u32 0, .int .u32 0, .int .u32 0] #[.int .u8 15, .int .i64 (rd : Nat), .int .i64 (ra : Nat), .int .i64 (rb : Nat), .int .u32 i12, .int .u32 i16] #[.int .u32 0, .int .u32 0, .int .u32 0] B := by
    obtain ⟨q1, q2, q3, q4, q5, q6, q7⟩ := H0.out
    rw [← hW3]
    exact xr_start q1 q2 q3 q4 q6 HB1.out HB2.out _
  have c0 : W3.cell? ⟨w2.heap.size, 0, none⟩ = some (.int .u8 15) := hX.hi.cell 0
  have c1 : W3.cell? ⟨w2.heap.size, 1, none⟩ = some (.int .i64 (rd : Nat)) := hX.hi.cell 1
  have c2 : W3.cell? ⟨w2.heap.size, 2, none⟩ = some (.int .i64 (ra : Nat)) := hX.hi.cell 2
  have c3 : W3.cell? ⟨w2.heap.size, 3, none⟩ = some (.int .i64 (rb : Nat)) := hX.hi.cell 3
  have c4 : W3.cell? ⟨w2.heap.size, 4, none⟩ = some (.int .u32 i12) := hX.hi.cell 4
  have c5 : W3.cell? ⟨w2.heap.size, 5, none⟩ = some (.int .u32 i16) := hX.hi.cell 5
  have HXR := hid_of hX
  have hrd : rd < 16 := HD.out.1.1
  have hra : ra < 16 := HD.out.1.2.1
  have hrb : rb < 16 := HD.out.1.2.2
  have hi12 : W32 i12 := HD.out.2.1.1
  have hi16 : W32 i16 := HD.out.2.1.2
  clear hX HD HB1 HB2 H0 HX HXW HI
  go_upto_region 31 with fail
  clear hW3
  clear c0 c1 c2 c3 c4 c5
  refine wp_region_float [0, 1, 2, 3, 4, 5, 6, 7, 9, 10, 11] [8, 12, 13, 14] [0, 1, 3, 5, 6, 9, 10] mixed (fun ω => Blk ω w2.heap.size #[.int .u8 15, .int .i64 (rd : Nat), .int .i64 (ra : Nat), .int .i64 (rb : Nat), .int .u32 i12, .int .u32 i16] 132) (by kernel_rfl) rfl (by kernel_rfl) HXR.out.drew.hi ?_
  refine wpFl_op _ _ _ _ rfl rfl (fun ω hj => by go_simp; rfl) ?_
  refine wpFl_op _ _ _ _ rfl rfl (fun ω hj => by go_simp; rfl) ?_
  refine wpFl_op _ _ _ _ rfl rfl (fun ω hj => by have q : ω.cell? ⟨w2.heap.size, 1, none⟩ = some (.int .i64 (rd : Nat)) := Blk.cell (hj rfl) 1; go_simp; rfl) ?_
  refine wpFl_op _ _ _ _ rfl rfl (fun ω hj => by go_simp; rfl) ?_
  refine wpFl_op _ _ _ _ rfl rfl (fun ω hj => by have q : ω.cell? ⟨w2.heap.size, 0, none⟩ = some (.int .u8 15) := Blk.cell (hj rfl) 0; go_simp; rfl) ?_
  refine wpFl_op _ _ _ _ rfl rfl (fun ω hj => by go_simp; rfl) ?_
  refine wpFl_op _ _ _ _ rfl rfl (fun ω hj => by go_simp; rfl) ?_
  refine wpFl_op _ _ _ _ rfl rfl (fun ω hj => by have q : ω.cell? ⟨w2.heap.size, 2, none⟩ = some (.int .i64 (ra : Nat)) := Blk.cell (hj rfl) 2; go_simp; rfl) ?_
  refine wpFl_op _ _ _ _ rfl rfl (fun ω hj => by go_simp; rfl) ?_
  refine wpFl_op _ _ _ _ rfl rfl (fun ω hj => by go_simp; rfl) ?_
  refine wpFl_op _ _ _ _ rfl rfl (fun ω hj => by have q : ω.cell? ⟨w2.heap.size, 3, none⟩ = some (.int .i64 (rb : Nat)) := Blk.cell (hj rfl) 3; go_simp; rfl) ?_
  refine wpFl_nil _ _ ?_
  simp only [Act.put, List.setIfInBounds_toArray]
  have HX4 : Hid (XR w W3.drew pb o bb cb base fv a n cap w.heap.size w2.heap.size (w2.heap.size + 1) #[.int .u32 0, .int .u32 0, .int .u32 0] #[.int .u8 15, .int .i64 (rd : Nat), .int .i64 (ra : Nat), .int .i64 (rb : Nat), .int .u32 i12, .int .u32 i16] #[.int .u32 0, .int .u32 0, .int .u32 0] (B)) := HXR.out.drew
  clear HXR
  refine wpCh_one _ _ _ _ rfl ?_
  have HG := hid_of (reg_any pb o bb cb base ra hra hb fv _ (B) W3.drew HX4.out.cr HX4.out.br)
  go_wp2_with fail
  refine HG.out.mono ?_
  rintro e v5 ⟨rfl, hb5⟩
  have HX5 : Hid (XR w v5 pb o bb cb base fv a n cap w.heap.size w2.heap.size (w2.heap.size + 1) #[.int .u32 0, .int .u32 0, .int .u32 0] #[.int .u8 15, .int .i64 (rd : Nat), .int .i64 (ra : Nat), .int .i64 (rb : Nat), .int .u32 i12, .int .u32 i16] #[.int .u32 0, .int .u32 0, .int .u32 0] (B)) := HX4.out.below hb5
  clear hb5 HG HX4
  go_wp2_with fail
  refine ⟨HX5.out.hi, ?_⟩
  refine wpCh_one _ _ _ _ rfl ?_
  have HG := hid_of (reg_any pb o bb cb base rb hrb hb fv _ (B) v5 HX5.out.cr HX5.out.br)
  go_wp2_with fail
  refine HG.out.mono ?_
  rintro e v6 ⟨rfl, hb6⟩
  have HX6 : Hid (XR w v6 pb o bb cb base fv a n cap w.heap.size w2.heap.size (w2.heap.size + 1) #[.int .u32 0, .int .u32 0, .int .u32 0] #[.int .u8 15, .int .i64 (rd : Nat), .int .i64 (ra : Nat), .int .i64 (rb : Nat), .int .u32 i12, .int .u32 i16] #[.int .u32 0, .int .u32 0, .int .u32 0] (B)) := HX5.out.below hb6
  clear hb6 HG HX5
  go_wp2_with fail
  refine ⟨HX6.out.hi, ?_⟩
  refine wpCh_one _ _ _ _ rfl ?_
  have HA := hid_of (alu_any 15 (B.get (base + ra)) (B.get (base + rb)) (by unfold isAlu; decide) (HOK.out.get _) (HOK.out.get _) v6)
  go_wp2_with fail
  refine HA.out.mono ?_
  rintro e v99 ⟨rfl, hw99⟩
  obtain rfl := hw99.symm
  clear HA
  go_wp2_with fail
  refine ⟨HX6.out.hi, ?_⟩
  refine wpCh_rest _ _ _ _ [_] _ _ rfl (by kernel_rfl) ?_
  simp only [List.getElem_toArray, List.getElem_cons_succ, List.getElem_cons_zero]
  have HS := hid_of (setReg_any pb o bb cb base rd hrd hb fv _ (B) (aluF 15 (B.get (base + ra)) (B.get (base + rb))) v6 HX6.out.cr HX6.out.br)
  go_wp2_with fail
  refine HS.out.mono ?_
  rintro e v8 ⟨rfl, u8, hb8, hw8⟩
  have HX8 : Hid (XR w v8 pb o bb cb base fv a n cap w.heap.size w2.heap.size (w2.heap.size + 1) #[.int .u32 0, .int .u32 0, .int .u32 0] #[.int .u8 15, .int .i64 (rd : Nat), .int .i64 (ra : Nat), .int .i64 (rb : Nat), .int .u32 i12, .int .u32 i16] #[.int .u32 0, .int .u32 0, .int .u32 0] ((B).set (base + rd) (aluF 15 (B.get (base + ra)) (B.get (base + rb))))) := by
    rw [hw8]; exact HX6.out.set hb8 _ _
  clear hb8 hw8 HS HX6
  have HS := hid_of (setPC_any pb o bb cb base hb fv _ ((B).set (base + rd) (aluF 15 (B.get (base + ra)) (B.get (base + rb)))) ((pc + 1) % 4294967296) v8 HX8.out.cr HX8.out.br)
  go_wp2_with fail
  refine HS.out.mono ?_
  rintro e v10 ⟨rfl, u10, hb10, hw10⟩
  have HX10 : Hid (XR w v10 pb o bb cb base fv a n cap w.heap.size w2.heap.size (w2.heap.size + 1) #[.int .u32 0, .int .u32 0, .int .u32 0] #[.int .u8 15, .int .i64 (rd : Nat), .int .i64 (ra : Nat), .int .i64 (rb : Nat), .int .u32 i12, .int .u32 i16] #[.int .u32 0, .int .u32 0, .int .u32 0] (((B).set (base + rd) (aluF 15 (B.get (base + ra)) (B.get (base + rb)))).set (base + 16) ((pc + 1) % 4294967296))) := by
    rw [hw10]; exact HX8.out.set hb10 _ _
  clear hb10 hw10 HS HX8
  have d0 : v10.cell? ⟨w2.heap.size + 1, 0, none⟩ = some (#[.int .u32 0, .int .u32 0, .int .u32 0][0]) := HX10.out.ho.cell 0
  have d1 : v10.cell? ⟨w2.heap.size + 1, 1, none⟩ = some (#[.int .u32 0, .int .u32 0, .int .u32 0][1]) := HX10.out.ho.cell 1
  have d2 : v10.cell? ⟨w2.heap.size + 1, 2, none⟩ = some (#[.int .u32 0, .int .u32 0, .int .u32 0][2]) := HX10.out.ho.cell 2
  simp only [List.getElem_toArray, List.getElem_cons_succ, List.getElem_cons_zero] at d0 d1 d2
  obtain ⟨w9, hw9, hl9⟩ := HX10.out.hr.out
  have HFIN : Hid (Tn w (put w9 w.heap.size #[.int .u32 0, .int .u32 0, .int .u32 0] 49) cb (((B).set (base + rd) (aluF 15 (B.get (base + ra)) (B.get (base + rb)))).set (base + 16) ((pc + 1) % 4294967296)).c) := by
    have := HX10.out.ret w.heap.size (Nat.le_refl _) #[.int .u32 0, .int .u32 0, .int .u32 0] 49
    rw [hw9, put_put] at this
    exact this
  clear HX10
  subst hw9
  go_wp2_with fail
  exact bodyPost_ret (v := .agg #[.int .u32 0, .int .u32 0, .int .u32 0]) (results_cell_row (by rfl) _ _ w.heap.size 49 _ (0, 0) _ (by rfl) (Blk.put_same hl9) Try.underlying49 rfl (by rw [size49]; rfl)) rfl ⟨by rw [hE.out]; rfl, by rw [hE.out]; exact HFIN.out⟩
set_option linter.unusedVariables false in
set_option maxRecDepth 100000 in
set_option maxHeartbeats 4000000 in
theorem ex_16 (pb o bb cb base : Nat) (hb : base ≤ 18) (fv : Value) (a : Option Addr) (n cap : Nat) (prog : List Int) (hn : prog.length = n) (hn6 : n ≤ 64) (hpr : ∀ x ∈ prog, W32 x) (B : BD) (hB : B.Ok) (w : World) (hc : CR w pb o bb base (.slice a n cap)) (h : BR w bb cb fv B) (hS : Sl w (.slice a n cap) 30 1 n (prow prog)) (hpc : pb ≠ cb)
    (hop : (decF (fetF prog (B.get (base + 16)))).op = 16) :
    Calls Try.prog 77 #[.pointer (some ⟨pb, o, none⟩)] w fun e w' => e = .returned (.agg (buV (execF prog base B).2)) ∧ Tn w w' cb (execF prog base B).1.c := by
  have hpcw := hB.get (base + 16)
  obtain ⟨pc, hpcd⟩ : ∃ pc, B.get (base + 16) = pc := ⟨_, rfl⟩
  have hfw : W32 (fetF prog pc) := fetF_w32 hpr pc (by rw [hpcd] at hpcw; exact hpcw)
  obtain ⟨x, hx⟩ : ∃ x, fetF prog pc = x := ⟨_, rfl⟩
  have hdec := decF_ok x (by rw [← hx]; exact hfw)
  rw [hpcd, hx] at hop
  have hE : Hid (execF prog base B = execI base pc (decF x) B) := by unfold Hid execF; rw [hpcd, hx]
  obtain ⟨W, hW⟩ : ∃ W, w.alloc (.cells #[.int .u32 0, .int .u32 0, .int .u32 0] 49) = W := ⟨_, rfl⟩
  have hbel : Below w.heap.size w W := by rw [← hW]; exact (Below.refl _ _).alloc (Nat.le_refl _) _
  have hbn : Blk W w.heap.size #[.int .u32 0, .int .u32 0, .int .u32 0] 49 := by rw [← hW]; exact Blk.new _ _ _
  have hc1 : CR W pb o bb base (.slice a n cap) := by rw [← hW]; exact ⟨ca1 _ _ _ _ hc.c0, ca1 _ _ _ _ hc.c1, ca1 _ _ _ _ hc.c2⟩
  have hB1 := h.below hbel
  have HP := hid_of (pc_any pb o bb cb base hb fv _ B W hc1 hB1)
  rw [hpcd] at HP
  have H0 := hid_of (And.intro hbel (And.intro hbn (And.intro hc (And.intro h (And.intro hS (And.intro hpc hn))))))
  have HD := hid_of hdec
  have hplt := World.block_lt_of_cell? _ _ hc.c0
  have hclt := h.cel.lt
  have HOK := hid_of hB
  have HPW : Hid (W32 pc) := by rw [← hpcd]; exact hpcw
  have HXW : Hid (W32 x) := by rw [← hx]; exact hfw
  have HX := hid_of hx
  have HGET := hid_of hpcd
  clear hc h hbn hbel hc1 hB1 hdec hS hpc hn hB hpr hpcw hfw hx hpcd
  obtain ⟨I, hI⟩ : ∃ I, decF x = I := ⟨_, rfl⟩
  rw [hI] at hop hE HD
  have HI := hid_of hI
  clear hI
  obtain ⟨op, rd, ra, rb, i12, i16⟩ := I
  simp only [] at hop
  obtain rfl := hop
  go_enter Try.func77, Try.ntmps77
  go_upto_region 1 with fail
  clear hW
  refine wp_region_list ?_
  go_wp2_with fail
  refine HP.out.mono ?_
  rintro e w1 ⟨rfl, hb1⟩
  have HB1 := hid_of hb1
  have HF : Hid (Calls Try.prog 86 #[.pointer (some ⟨pb, o, none⟩), .int .u32 pc] w1 fun e w' => e = .returned (.int .u32 x) ∧ w' = w1) := by
    rw [← HX.out]
    obtain ⟨q1, q2, q3, q4, q5, q6, q7⟩ := H0.out
    have b2 : Below w.heap.size w w1 := q1.trans (hb1.mono q1.size)
    have c2 : w1.cell? ⟨pb, o + 2, none⟩ = some (.slice a n cap) := by
      have := q3.c2; simp only [World.cell?] at this ⊢; rw [b2.block _ hplt]; exact this
    exact fetch_any pb o a n cap prog q7 hn6 pc HPW.out w1 c2 (q5.same fun k hk => b2.block k (q5.lt k hk))
  have HDE : Hid (Calls Try.prog 85 #[.int .u32 x] w1 fun e w' => e = .returned (.agg #[.int .u8 16, .int .i64 (rd : Nat), .int .i64 (ra : Nat), .int .i64 (rb : Nat), .int .u32 i12, .int .u32 i16]) ∧ Below w1.heap.size w1 w') := by
    have := decode_any x HXW.out w1
    rw [HI.out] at this
    exact this
  clear hb1 HP
  go_upto_region 2 with fail
  refine wp_region_list ?_
  go_wp2_with fail
  refine HF.out.mono ?_
  rintro e w2 ⟨rfl, hw2⟩
  obtain rfl := hw2.symm
  go_wp2_with fail
  refine HDE.out.mono ?_
  rintro e w2 ⟨rfl, hb2⟩
  have HB2 := hid_of hb2
  clear hb2 HF HDE
  obtain ⟨W3, hW3⟩ : ∃ W3, (w2.alloc (.cells #[.int .u8 16, .int .i64 (rd : Nat), .int .i64 (ra : Nat), .int .i64 (rb : Nat), .int .u32 i12, .int .u32 i16] 132)).alloc (.cells #[.int .u32 0, .int .u32 0, .int .u32 0] 49) = W3 := ⟨_, rfl⟩
  have hX : XR w W3 pb o bb cb base fv a n cap w.heap.size w2.heap.size (w2.heap.size + 1) #[.int .u32 0, .int .u32 0, .int .u32 0] #[.int .u8 16, .int .i64 (rd : Nat), .int .i64 (ra : Nat), .int .i64 (rb : Nat), .int .u32 i12, .int .u32 i16] #[.int .u32 0, .int .u32 0, .int .u32 0] B := by
    obtain ⟨q1, q2, q3, q4, q5, q6, q7⟩ := H0.out
    rw [← hW3]
    exact xr_start q1 q2 q3 q4 q6 HB1.out HB2.out _
  have c0 : W3.cell? ⟨w2.heap.size, 0, none⟩ = some (.int .u8 16) := hX.hi.cell 0
  have c1 : W3.cell? ⟨w2.heap.size, 1, none⟩ = some (.int .i64 (rd : Nat)) := hX.hi.cell 1
  have c2 : W3.cell? ⟨w2.heap.size, 2, none⟩ = some (.int .i64 (ra : Nat)) := hX.hi.cell 2
  have c3 : W3.cell? ⟨w2.heap.size, 3, none⟩ = some (.int .i64 (rb : Nat)) := hX.hi.cell 3
  have c4 : W3.cell? ⟨w2.heap.size, 4, none⟩ = some (.int .u32 i12) := hX.hi.cell 4
  have c5 : W3.cell? ⟨w2.heap.size, 5, none⟩ = some (.int .u32 i16) := hX.hi.cell 5
  have HXR := hid_of hX
  have hrd : rd < 16 := HD.out.1.1
  have hra : ra < 16 := HD.out.1.2.1
  have hrb : rb < 16 := HD.out.1.2.2
  have hi12 : W32 i12 := HD.out.2.1.1
  have hi16 : W32 i16 := HD.out.2.1.2
  clear hX HD HB1 HB2 H0 HX HXW HI
  go_upto_region 31 with fail
  clear hW3
  clear c0 c1 c2 c3 c4 c5
  refine wp_region_float [0, 1, 2, 3, 4, 5, 6, 7, 9, 10, 11] [8, 12, 13, 14] [0, 1, 3, 5, 6, 9, 10] mixed (fun ω => Blk ω w2.heap.size #[.int .u8 16, .int .i64 (rd : Nat), .int .i64 (ra : Nat), .int .i64 (rb : Nat), .int .u32 i12, .int .u32 i16] 132) (by kernel_rfl) rfl (by kernel_rfl) HXR.out.drew.hi ?_
  refine wpFl_op _ _ _ _ rfl rfl (fun ω hj => by go_simp; rfl) ?_
  refine wpFl_op _ _ _ _ rfl rfl (fun ω hj => by go_simp; rfl) ?_
  refine wpFl_op _ _ _ _ rfl rfl (fun ω hj => by have q : ω.cell? ⟨w2.heap.size, 1, none⟩ = some (.int .i64 (rd : Nat)) := Blk.cell (hj rfl) 1; go_simp; rfl) ?_
  refine wpFl_op _ _ _ _ rfl rfl (fun ω hj => by go_simp; rfl) ?_
  refine wpFl_op _ _ _ _ rfl rfl (fun ω hj => by have q : ω.cell? ⟨w2.heap.size, 0, none⟩ = some (.int .u8 16) := Blk.cell (hj rfl) 0; go_simp; rfl) ?_
  refine wpFl_op _ _ _ _ rfl rfl (fun ω hj => by go_simp; rfl) ?_
  refine wpFl_op _ _ _ _ rfl rfl (fun ω hj => by go_simp; rfl) ?_
  refine wpFl_op _ _ _ _ rfl rfl (fun ω hj => by have q : ω.cell? ⟨w2.heap.size, 2, none⟩ = some (.int .i64 (ra : Nat)) := Blk.cell (hj rfl) 2; go_simp; rfl) ?_
  refine wpFl_op _ _ _ _ rfl rfl (fun ω hj => by go_simp; rfl) ?_
  refine wpFl_op _ _ _ _ rfl rfl (fun ω hj => by go_simp; rfl) ?_
  refine wpFl_op _ _ _ _ rfl rfl (fun ω hj => by have q : ω.cell? ⟨w2.heap.size, 3, none⟩ = some (.int .i64 (rb : Nat)) := Blk.cell (hj rfl) 3; go_simp; rfl) ?_
  refine wpFl_nil _ _ ?_
  simp only [Act.put, List.setIfInBounds_toArray]
  have HX4 : Hid (XR w W3.drew pb o bb cb base fv a n cap w.heap.size w2.heap.size (w2.heap.size + 1) #[.int .u32 0, .int .u32 0, .int .u32 0] #[.int .u8 16, .int .i64 (rd : Nat), .int .i64 (ra : Nat), .int .i64 (rb : Nat), .int .u32 i12, .int .u32 i16] #[.int .u32 0, .int .u32 0, .int .u32 0] (B)) := HXR.out.drew
  clear HXR
  refine wpCh_one _ _ _ _ rfl ?_
  have HG := hid_of (reg_any pb o bb cb base ra hra hb fv _ (B) W3.drew HX4.out.cr HX4.out.br)
  go_wp2_with fail
  refine HG.out.mono ?_
  rintro e v5 ⟨rfl, hb5⟩
  have HX5 : Hid (XR w v5 pb o bb cb base fv a n cap w.heap.size w2.heap.size (w2.heap.size + 1) #[.int .u32 0, .int .u32 0, .int .u32 0] #[.int .u8 16, .int .i64 (rd : Nat), .int .i64 (ra : Nat), .int .i64 (rb : Nat), .int .u32 i12, .int .u32 i16] #[.int .u32 0, .int .u32 0, .int .u32 0] (B)) := HX4.out.below hb5
  clear hb5 HG HX4
  go_wp2_with fail
  refine ⟨HX5.out.hi, ?_⟩
  refine wpCh_one _ _ _ _ rfl ?_
  have HG := hid_of (reg_any pb o bb cb base rb hrb hb fv _ (B) v5 HX5.out.cr HX5.out.br)
  go_wp2_with fail
  refine HG.out.mono ?_
  rintro e v6 ⟨rfl, hb6⟩
  have HX6 : Hid (XR w v6 pb o bb cb base fv a n cap w.heap.size w2.heap.size (w2.heap.size + 1) #[.int .u32 0, .int .u32 0, .int .u32 0] #[.int .u8 16, .int .i64 (rd : Nat), .int .i64 (ra : Nat), .int .i64 (rb : Nat), .int .u32 i12, .int .u32 i16] #[.int .u32 0, .int .u32 0, .int .u32 0] (B)) := HX5.out.below hb6
  clear hb6 HG HX5
  go_wp2_with fail
  refine ⟨HX6.out.hi, ?_⟩
  refine wpCh_one _ _ _ _ rfl ?_
  have HA := hid_of (alu_any 16 (B.get (base + ra)) (B.get (base + rb)) (by unfold isAlu; decide) (HOK.out.get _) (HOK.out.get _) v6)
  go_wp2_with fail
  refine HA.out.mono ?_
  rintro e v99 ⟨rfl, hw99⟩
  obtain rfl := hw99.symm
  clear HA
  go_wp2_with fail
  refine ⟨HX6.out.hi, ?_⟩
  refine wpCh_rest _ _ _ _ [_] _ _ rfl (by kernel_rfl) ?_
  simp only [List.getElem_toArray, List.getElem_cons_succ, List.getElem_cons_zero]
  have HS := hid_of (setReg_any pb o bb cb base rd hrd hb fv _ (B) (aluF 16 (B.get (base + ra)) (B.get (base + rb))) v6 HX6.out.cr HX6.out.br)
  go_wp2_with fail
  refine HS.out.mono ?_
  rintro e v8 ⟨rfl, u8, hb8, hw8⟩
  have HX8 : Hid (XR w v8 pb o bb cb base fv a n cap w.heap.size w2.heap.size (w2.heap.size + 1) #[.int .u32 0, .int .u32 0, .int .u32 0] #[.int .u8 16, .int .i64 (rd : Nat), .int .i64 (ra : Nat), .int .i64 (rb : Nat), .int .u32 i12, .int .u32 i16] #[.int .u32 0, .int .u32 0, .int .u32 0] ((B).set (base + rd) (aluF 16 (B.get (base + ra)) (B.get (base + rb))))) := by
    rw [hw8]; exact HX6.out.set hb8 _ _
  clear hb8 hw8 HS HX6
  have HS := hid_of (setPC_any pb o bb cb base hb fv _ ((B).set (base + rd) (aluF 16 (B.get (base + ra)) (B.get (base + rb)))) ((pc + 1) % 4294967296) v8 HX8.out.cr HX8.out.br)
  go_wp2_with fail
  refine HS.out.mono ?_
  rintro e v10 ⟨rfl, u10, hb10, hw10⟩
  have HX10 : Hid (XR w v10 pb o bb cb base fv a n cap w.heap.size w2.heap.size (w2.heap.size + 1) #[.int .u32 0, .int .u32 0, .int .u32 0] #[.int .u8 16, .int .i64 (rd : Nat), .int .i64 (ra : Nat), .int .i64 (rb : Nat), .int .u32 i12, .int .u32 i16] #[.int .u32 0, .int .u32 0, .int .u32 0] (((B).set (base + rd) (aluF 16 (B.get (base + ra)) (B.get (base + rb)))).set (base + 16) ((pc + 1) % 4294967296))) := by
    rw [hw10]; exact HX8.out.set hb10 _ _
  clear hb10 hw10 HS HX8
  have d0 : v10.cell? ⟨w2.heap.size + 1, 0, none⟩ = some (#[.int .u32 0, .int .u32 0, .int .u32 0][0]) := HX10.out.ho.cell 0
  have d1 : v10.cell? ⟨w2.heap.size + 1, 1, none⟩ = some (#[.int .u32 0, .int .u32 0, .int .u32 0][1]) := HX10.out.ho.cell 1
  have d2 : v10.cell? ⟨w2.heap.size + 1, 2, none⟩ = some (#[.int .u32 0, .int .u32 0, .int .u32 0][2]) := HX10.out.ho.cell 2
  simp only [List.getElem_toArray, List.getElem_cons_succ, List.getElem_cons_zero] at d0 d1 d2
  obtain ⟨w9, hw9, hl9⟩ := HX10.out.hr.out
  have HFIN : Hid (Tn w (put w9 w.heap.size #[.int .u32 0, .int .u32 0, .int .u32 0] 49) cb (((B).set (base + rd) (aluF 16 (B.get (base + ra)) (B.get (base + rb)))).set (base + 16) ((pc + 1) % 4294967296)).c) := by
    have := HX10.out.ret w.heap.size (Nat.le_refl _) #[.int .u32 0, .int .u32 0, .int .u32 0] 49
    rw [hw9, put_put] at this
    exact this
  clear HX10
  subst hw9
  go_wp2_with fail
  exact bodyPost_ret (v := .agg #[.int .u32 0, .int .u32 0, .int .u32 0]) (results_cell_row (by rfl) _ _ w.heap.size 49 _ (0, 0) _ (by rfl) (Blk.put_same hl9) Try.underlying49 rfl (by rw [size49]; rfl)) rfl ⟨by rw [hE.out]; rfl, by rw [hE.out]; exact HFIN.out⟩
end Go.Proofs.Qxb6500749a
