import Derived.Test.Qxb6500749aExe
namespace Go.Proofs.Qxb6500749a
open Go.RowKit
attribute [local go_sem] put_size put_cell_same put_cell_ne put_frozen_same put_frozen_ne put_setCell_same put_setCell_ne put_drew
attribute [local go_sem] drewN_setCell drewN_alloc drewN_put
set_option linter.unusedVariables false in
set_option maxRecDepth 100000 in
set_option maxHeartbeats 4000000 in
theorem ex_17 (pb o bb cb base : Nat) (hb : base ≤ 18) (fv : Value) (a : Option Addr) (n cap : Nat) (prog : List Int) (hn : prog.length = n) (hn6 : n ≤ 64) (hpr : ∀ x ∈ prog, W32 x) (B : BD) (hB : B.Ok) (w : World) (hc : CR w pb o bb base (.slice a n cap)) (h : BR w bb cb fv B) (hS : Sl w (.slice a n cap) 30 1 n (prow prog)) (hpc : pb ≠ cb)
    (hop : (decF (fetF prog (B.get (base + 16)))).op = 17) :
    Calls Try.prog 77 #[.pointer (some ⟨pb, o, none⟩)] w fun e w' => e = .returned (.agg (buV (execF prog base B).2)) ∧ Tn w w' cb (execF prog base B).1.c := by
  have hpcw := hB.get (base + 16)
  obtain ⟨pc, hpcd⟩ : ∃ pc, B.get (base + 16) = pc := ⟨_, rfl⟩
  have hfw : W32 (fetF prog pc) := fetF_w32 hpr pc (by rw [hpcd] at hpcw; exact hpcw)
  obtain ⟨x, hx⟩ : ∃ x, fetF prog pc = x := ⟨_, rfl⟩
  have hdec := decF_ok x (by rw [← hx]; exact hfw)
  rw [hpcd, hx] at hop
  have hE : Hid (execF prog base B = execI base pc (decF x) B) := by unfold Hid execF; rw [hpcd, hx]
  obtain ⟨W, hW⟩ : ∃ W, w.alloc (.cells #[.int .u32 0, .int .u32 0, .int .u32 0] 49) = W := ⟨_, rfl⟩
  have hbel : Below w.heap.size w W := by rw [← hW]; exact (Below.refl _ _).alloc (Nat.le_refl _) _
  have hbn : Blk W w.heap.size #[.int .u32 0, .int .u32 0, .int .u32 0] 49 := by rw [← hW]; exact Blk.new _ _ _
  have hc1 : CR W pb o bb base (.slice a n cap) := by rw [← hW]; exact ⟨ca1 _ _ _ _ hc.c0, ca1 _ _ _ _ hc.c1, ca1 _ _ _ _ hc.c2⟩
  have hB1 := h.below hbel
  have HP := hid_of (pc_any pb o bb cb base hb fv _ B W hc1 hB1)
  rw [hpcd] at HP
  have H0 := hid_of (And.intro hbel (And.intro hbn (And.intro hc (And.intro h (And.intro hS (And.intro hpc hn))))))
  have HD := hid_of hdec
  have hplt := World.block_lt_of_cell? _ _ hc.c0
  have hclt := h.cel.lt
  have HOK := hid_of hB
  have HPW : Hid (W32 pc) := by rw [← hpcd]; exact hpcw
  have HXW : Hid (W32 x) := by rw [← hx]; exact hfw
  have HX := hid_of hx
  have HGET := hid_of hpcd
  clear hc h hbn hbel hc1 hB1 hdec hS hpc hn hB hpr hpcw hfw hx hpcd
  obtain ⟨I, hI⟩ : ∃ I, decF x = I := ⟨_, rfl⟩
  rw [hI] at hop hE HD
  have HI := hid_of hI
  clear hI
  obtain ⟨op, rd, ra, rb, i12, i16⟩ := I
  simp only [] at hop
  obtain rfl := hop
  go_enter Try.func77, Try.ntmps77
  go_upto_region 1 with fail
  clear hW
  refine wp_region_list ?_
  go_wp2_with fail
  refine HP.out.mono ?_
  rintro e w1 ⟨rfl, hb1⟩
  have HB1 := hid_of hb1
  have HF : Hid (Calls Try.prog 86 #[.pointer (some ⟨pb, o, none⟩), .int .u32 pc] w1 fun e w' => e = .returned (.int .u32 x) ∧ w' = w1) := by
    rw [← HX.out]
    obtain ⟨q1, q2, q3, q4, q5, q6, q7⟩ := H0.out
    have b2 : Below w.heap.size w w1 := q1.trans (hb1.mono q1.size)
    have c2 : w1.cell? ⟨pb, o + 2, none⟩ = some (.slice a n cap) := by
      have := q3.c2; simp only [World.cell?] at this ⊢; rw [b2.block _ hplt]; exact this
    exact fetch_any pb o a n cap prog q7 hn6 pc HPW.out w1 c2 (q5.same fun k hk => b2.block k (q5.lt k hk))
  have HDE : Hid (Calls Try.prog 85 #[.int .u32 x] w1 fun e w' => e = .returned (.agg #[.int .u8 17, .int .i64 (rd : Nat), .int .i64 (ra : Nat), .int .i64 (rb : Nat), .int .u32 i12, .int .u32 i16]) ∧ Below w1.heap.size w1 w') := by
    have := decode_any x HXW.out w1
    rw [HI.out] at this
    exact this
  clear hb1 HP
  go_upto_region 2 with fail
  refine wp_region_list ?_
  go_wp2_with fail
  refine HF.out.mono ?_
  rintro e w2 ⟨rfl, hw2⟩
  obtain rfl := hw2.symm
  go_wp2_with fail
  refine HDE.out.mono ?_
  rintro e w2 ⟨rfl, hb2⟩
  have HB2 := hid_of hb2
  clear hb2 HF HDE
  obtain ⟨W3, hW3⟩ : ∃ W3, (w2.alloc (.cells #[.int .u8 17, .int .i64 (rd : Nat), .int .i64 (ra : Nat), .int .i64 (rb : Nat), .int .u32 i12, .int .u32 i16] 132)).alloc (.cells #[.int .u32 0, .int .u32 0, .int .u32 0] 49) = W3 := ⟨_, rfl⟩
  have hX : XR w W3 pb o bb cb base fv a n cap w.heap.size w2.heap.size (w2.heap.size + 1) #[.int .u32 0, .int .u32 0, .int .u32 0] #[.int .u8 17, .int .i64 (rd : Nat), .int .i64 (ra : Nat), .int .i64 (rb : Nat), .int .u32 i12, .int .u32 i16] #[.int .u32 0, .int .u32 0, .int .u32 0] B := by
    obtain ⟨q1, q2, q3, q4, q5, q6, q7⟩ := H0.out
    rw [← hW3]
    exact xr_start q1 q2 q3 q4 q6 HB1.out HB2.out _
  have c0 : W3.cell? ⟨w2.heap.size, 0, none⟩ = some (.int .u8 17) := hX.hi.cell 0
  have c1 : W3.cell? ⟨w2.heap.size, 1, none⟩ = some (.int .i64 (rd : Nat)) := hX.hi.cell 1
  have c2 : W3.cell? ⟨w2.heap.size, 2, none⟩ = some (.int .i64 (ra : Nat)) := hX.hi.cell 2
  have c3 : W3.cell? ⟨w2.heap.size, 3, none⟩ = some (.int .i64 (rb : Nat)) := hX.hi.cell 3
  have c4 : W3.cell? ⟨w2.heap.size, 4, none⟩ = some (.int .u32 i12) := hX.hi.cell 4
  have c5 : W3.cell? ⟨w2.heap.size, 5, none⟩ = some (.int .u32 i16) := hX.hi.cell 5
  have HXR := hid_of hX
  have hrd : rd < 16 := HD.out.1.1
  have hra : ra < 16 := HD.out.1.2.1
  have hrb : rb < 16 := HD.out.1.2.2
  have hi12 : W32 i12 := HD.out.2.1.1
  have hi16 : W32 i16 := HD.out.2.1.2
  clear hX HD HB1 HB2 H0 HX HXW HI
  go_upto_region 33 with fail
  clear hW3
  clear c0 c1 c2 c3 c4 c5
  refine wp_region_float [0, 1, 2, 4, 5] [3, 6, 7, 8] [0, 1, 4] mixed (fun ω => Blk ω w2.heap.size #[.int .u8 17, .int .i64 (rd : Nat), .int .i64 (ra : Nat), .int .i64 (rb : Nat), .int .u32 i12, .int .u32 i16] 132) (by kernel_rfl) rfl (by kernel_rfl) HXR.out.drew.hi ?_
  refine wpFl_op _ _ _ _ rfl rfl (fun ω hj => by go_simp; rfl) ?_
  refine wpFl_op _ _ _ _ rfl rfl (fun ω hj => by go_simp; rfl) ?_
  refine wpFl_op _ _ _ _ rfl rfl (fun ω hj => by have q : ω.cell? ⟨w2.heap.size, 2, none⟩ = some (.int .i64 (ra : Nat)) := Blk.cell (hj rfl) 2; go_simp; rfl) ?_
  refine wpFl_op _ _ _ _ rfl rfl (fun ω hj => by go_simp; rfl) ?_
  refine wpFl_op _ _ _ _ rfl rfl (fun ω hj => by have q : ω.cell? ⟨w2.heap.size, 4, none⟩ = some (.int .u32 i12) := Blk.cell (hj rfl) 4; go_simp; rfl) ?_
  refine wpFl_nil _ _ ?_
  simp only [Act.put, List.setIfInBounds_toArray]
  have HX4 : Hid (XR w W3.drew pb o bb cb base fv a n cap w.heap.size w2.heap.size (w2.heap.size + 1) #[.int .u32 0, .int .u32 0, .int .u32 0] #[.int .u8 17, .int .i64 (rd : Nat), .int .i64 (ra : Nat), .int .i64 (rb : Nat), .int .u32 i12, .int .u32 i16] #[.int .u32 0, .int .u32 0, .int .u32 0] (B)) := HXR.out.drew
  clear HXR
  refine wpCh_one _ _ _ _ rfl ?_
  have HG := hid_of (reg_any pb o bb cb base ra hra hb fv _ (B) W3.drew HX4.out.cr HX4.out.br)
  go_wp2_with fail
  refine HG.out.mono ?_
  rintro e v5 ⟨rfl, hb5⟩
  have HX5 : Hid (XR w v5 pb o bb cb base fv a n cap w.heap.size w2.heap.size (w2.heap.size + 1) #[.int .u32 0, .int .u32 0, .int .u32 0] #[.int .u8 17, .int .i64 (rd : Nat), .int .i64 (ra : Nat), .int .i64 (rb : Nat), .int .u32 i12, .int .u32 i16] #[.int .u32 0, .int .u32 0, .int .u32 0] (B)) := HX4.out.below hb5
  clear hb5 HG HX4
  go_wp2_with fail
  refine ⟨HX5.out.hi, ?_⟩
  refine wpCh_rest _ _ _ _ [_, _, _] _ _ rfl (by kernel_rfl) ?_
  simp only [List.getElem_toArray, List.getElem_cons_succ, List.getElem_cons_zero]
  obtain ⟨u6, hu6, hl6⟩ := HX5.out.ho.out
  have HX6 : Hid (XR w (put u6 (w2.heap.size + 1) #[.int .u32 1, .int .u32 ((B.get (base + ra) + i12) % 4294967296), .int .u32 0] 49) pb o bb cb base fv a n cap w.heap.size w2.heap.size (w2.heap.size + 1) #[.int .u32 0, .int .u32 0, .int .u32 0] #[.int .u8 17, .int .i64 (rd : Nat), .int .i64 (ra : Nat), .int .i64 (rb : Nat), .int .u32 i12, .int .u32 i16] #[.int .u32 1, .int .u32 ((B.get (base + ra) + i12) % 4294967296), .int .u32 0] (B)) := by
    have := HX5.out.out #[.int .u32 1, .int .u32 ((B.get (base + ra) + i12) % 4294967296), .int .u32 0]
    rw [hu6, put_put] at this
    exact this
  clear HX5
  subst hu6
  go_upto_region 34 with fail
  obtain ⟨v6, hv6⟩ : ∃ v, put u6 (w2.heap.size + 1) #[.int .u32 1, .int .u32 ((B.get (base + ra) + i12) % 4294967296), .int .u32 0] 49 = v := ⟨_, rfl⟩
  rw [hv6] at HX6 ⊢
  clear hv6 hl6
  have c1 : v6.cell? ⟨w2.heap.size, 1, none⟩ = some (.int .i64 (rd : Nat)) := HX6.out.hi.cell 1
  have hrw1 : ((rd : Nat) : Int) % 4294967296 = (rd : Nat) := by omega
  have hrw2 : ((rd : Nat) : Int) * 16 % 4294967296 = (rd : Nat) * 16 := by omega
  have HS := hid_of (setMode_any pb o bb cb base hb fv _ (B) (bits BinOp.or IntKind.u32 5 ((rd : Nat) * 16)) v6 HX6.out.cr HX6.out.br)
  go_wp2_with fail
  refine HS.out.mono ?_
  rintro e v8 ⟨rfl, u8, hb8, hw8⟩
  have HX8 : Hid (XR w v8 pb o bb cb base fv a n cap w.heap.size w2.heap.size (w2.heap.size + 1) #[.int .u32 0, .int .u32 0, .int .u32 0] #[.int .u8 17, .int .i64 (rd : Nat), .int .i64 (ra : Nat), .int .i64 (rb : Nat), .int .u32 i12, .int .u32 i16] #[.int .u32 1, .int .u32 ((B.get (base + ra) + i12) % 4294967296), .int .u32 0] ((B).set (base + 17) (bits BinOp.or IntKind.u32 5 ((rd : Nat) * 16)))) := by
    rw [hw8]; exact HX6.out.set hb8 _ _
  clear hb8 hw8 HS HX6
  clear hrw1 hrw2 c1
  have HS := hid_of (setPC_any pb o bb cb base hb fv _ ((B).set (base + 17) (bits BinOp.or IntKind.u32 5 ((rd : Nat) * 16))) ((pc + 1) % 4294967296) v8 HX8.out.cr HX8.out.br)
  go_wp2_with fail
  refine HS.out.mono ?_
  rintro e v10 ⟨rfl, u10, hb10, hw10⟩
  have HX10 : Hid (XR w v10 pb o bb cb base fv a n cap w.heap.size w2.heap.size (w2.heap.size + 1) #[.int .u32 0, .int .u32 0, .int .u32 0] #[.int .u8 17, .int .i64 (rd : Nat), .int .i64 (ra : Nat), .int .i64 (rb : Nat), .int .u32 i12, .int .u32 i16] #[.int .u32 1, .int .u32 ((B.get (base + ra) + i12) % 4294967296), .int .u32 0] (((B).set (base + 17) (bits BinOp.or IntKind.u32 5 ((rd : Nat) * 16))).set (base + 16) ((pc + 1) % 4294967296))) := by
    rw [hw10]; exact HX8.out.set hb10 _ _
  clear hb10 hw10 HS HX8
  have d0 : v10.cell? ⟨w2.heap.size + 1, 0, none⟩ = some (#[.int .u32 1, .int .u32 ((B.get (base + ra) + i12) % 4294967296), .int .u32 0][0]) := HX10.out.ho.cell 0
  have d1 : v10.cell? ⟨w2.heap.size + 1, 1, none⟩ = some (#[.int .u32 1, .int .u32 ((B.get (base + ra) + i12) % 4294967296), .int .u32 0][1]) := HX10.out.ho.cell 1
  have d2 : v10.cell? ⟨w2.heap.size + 1, 2, none⟩ = some (#[.int .u32 1, .int .u32 ((B.get (base + ra) + i12) % 4294967296), .int .u32 0][2]) := HX10.out.ho.cell 2
  simp only [List.getElem_toArray, List.getElem_cons_succ, List.getElem_cons_zero] at d0 d1 d2
  obtain ⟨w9, hw9, hl9⟩ := HX10.out.hr.out
  have HFIN : Hid (Tn w (put w9 w.heap.size #[.int .u32 1, .int .u32 ((B.get (base + ra) + i12) % 4294967296), .int .u32 0] 49) cb (((B).set (base + 17) (bits BinOp.or IntKind.u32 5 ((rd : Nat) * 16))).set (base + 16) ((pc + 1) % 4294967296)).c) := by
    have := HX10.out.ret w.heap.size (Nat.le_refl _) #[.int .u32 1, .int .u32 ((B.get (base + ra) + i12) % 4294967296), .int .u32 0] 49
    rw [hw9, put_put] at this
    exact this
  clear HX10
  subst hw9
  go_wp2_with fail
  exact bodyPost_ret (v := .agg #[.int .u32 1, .int .u32 ((B.get (base + ra) + i12) % 4294967296), .int .u32 0]) (results_cell_row (by rfl) _ _ w.heap.size 49 _ (0, 0) _ (by rfl) (Blk.put_same hl9) Try.underlying49 rfl (by rw [size49]; rfl)) rfl ⟨by rw [hE.out]; rfl, by rw [hE.out]; exact HFIN.out⟩
set_option linter.unusedVariables false in
set_option maxRecDepth 100000 in
set_option maxHeartbeats 4000000 in
theorem ex_18 (pb o bb cb base : Nat) (hb : base ≤ 18) (fv : Value) (a : Option Addr) (n cap : Nat) (prog : List Int) (hn : prog.length = n) (hn6 : n ≤ 64) (hpr : ∀ x ∈ prog, W32 x) (B : BD) (hB : B.Ok) (w : World) (hc : CR w pb o bb base (.slice a n cap)) (h : BR w bb cb fv B) (hS : Sl w (.slice a n cap) 30 1 n (prow prog)) (hpc : pb ≠ cb)
    (hop : (decF (fetF prog (B.get (base + 16)))).op = 18) :
    Calls Try.prog 77 #[.pointer (some ⟨pb, o, none⟩)] w fun e w' => e = .returned (.agg (buV (execF prog base B).2)) ∧ Tn w w' cb (execF prog base B).1.c := by
  have hpcw := hB.get (base + 16)
  obtain ⟨pc, hpcd⟩ : ∃ pc, B.get (base + 16) = pc := ⟨_, rfl⟩
  have hfw : W32 (fetF prog pc) := fetF_w32 hpr pc (by rw [hpcd] at hpcw; exact hpcw)
  obtain ⟨x, hx⟩ : ∃ x, fetF prog pc = x := ⟨_, rfl⟩
  have hdec := decF_ok x (by rw [← hx]; exact hfw)
  rw [hpcd, hx] at hop
  have hE : Hid (execF prog base B = execI base pc (decF x) B) := by unfold Hid execF; rw [hpcd, hx]
  obtain ⟨W, hW⟩ : ∃ W, w.alloc (.cells #[.int .u32 0, .int .u32 0, .int .u32 0] 49) = W := ⟨_, rfl⟩
  have hbel : Below w.heap.size w W := by rw [← hW]; exact (Below.refl _ _).alloc (Nat.le_refl _) _
  have hbn : Blk W w.heap.size #[.int .u32 0, .int .u32 0, .int .u32 0] 49 := by rw [← hW]; exact Blk.new _ _ _
  have hc1 : CR W pb o bb base (.slice a n cap) := by rw [← hW]; exact ⟨ca1 _ _ _ _ hc.c0, ca1 _ _ _ _ hc.c1, ca1 _ _ _ _ hc.c2⟩
  have hB1 := h.below hbel
  have HP := hid_of (pc_any pb o bb cb base hb fv _ B W hc1 hB1)
  rw [hpcd] at HP
  have H0 := hid_of (And.intro hbel (And.intro hbn (And.intro hc (And.intro h (And.intro hS (And.intro hpc hn))))))
  have HD := hid_of hdec
  have hplt := World.block_lt_of_cell? _ _ hc.c0
  have hclt := h.cel.lt
  have HOK := hid_of hB
  have HPW : Hid (W32 pc) := by rw [← hpcd]; exact hpcw
  have HXW : Hid (W32 x) := by rw [← hx]; exact hfw
  have HX := hid_of hx
  have HGET := hid_of hpcd
  clear hc h hbn hbel hc1 hB1 hdec hS hpc hn hB hpr hpcw hfw hx hpcd
  obtain ⟨I, hI⟩ : ∃ I, decF x = I := ⟨_, rfl⟩
  rw [hI] at hop hE HD
  have HI := hid_of hI
  clear hI
  obtain ⟨op, rd, ra, rb, i12, i16⟩ := I
  simp only [] at hop
  obtain rfl := hop
  go_enter Try.func77, Try.ntmps77
  go_upto_region 1 with fail
  clear hW
  refine wp_region_list ?_
  go_wp2_with fail
  refine HP.out.mono ?_
  rintro e w1 ⟨rfl, hb1⟩
  have HB1 := hid_of hb1
  have HF : Hid (Calls Try.prog 86 #[.pointer (some ⟨pb, o, none⟩), .int .u32 pc] w1 fun e w' => e = .returned (.int .u32 x) ∧ w' = w1) := by
    rw [← HX.out]
    obtain ⟨q1, q2, q3, q4, q5, q6, q7⟩ := H0.out
    have b2 : Below w.heap.size w w1 := q1.trans (hb1.mono q1.size)
    have c2 : w1.cell? ⟨pb, o + 2, none⟩ = some (.slice a n cap) := by
      have := q3.c2; simp only [World.cell?] at this ⊢; rw [b2.block _ hplt]; exact this
    exact fetch_any pb o a n cap prog q7 hn6 pc HPW.out w1 c2 (q5.same fun k hk => b2.block k (q5.lt k hk))
  have HDE : Hid (Calls Try.prog 85 #[.int .u32 x] w1 fun e w' => e = .returned (.agg #[.int .u8 18, .int .i64 (rd : Nat), .int .i64 (ra : Nat), .int .i64 (rb : Nat), .int .u32 i12, .int .u32 i16]) ∧ Below w1.heap.size w1 w') := by
    have := decode_any x HXW.out w1
    rw [HI.out] at this
    exact this
  clear hb1 HP
  go_upto_region 2 with fail
  refine wp_region_list ?_
  go_wp2_with fail
  refine HF.out.mono ?_
  rintro e w2 ⟨rfl, hw2⟩
  obtain rfl := hw2.symm
  go_wp2_with fail
  refine HDE.out.mono ?_
  rintro e w2 ⟨rfl, hb2⟩
  have HB2 := hid_of hb2
  clear hb2 HF HDE
  obtain ⟨W3, hW3⟩ : ∃ W3, (w2.alloc (.cells #[.int .u8 18, .int .i64 (rd : Nat), .int .i64 (ra : Nat), .int .i64 (rb : Nat), .int .u32 i12, .int .u32 i16] 132)).alloc (.cells #[.int .u32 0, .int .u32 0, .int .u32 0] 49) = W3 := ⟨_, rfl⟩
  have hX : XR w W3 pb o bb cb base fv a n cap w.heap.size w2.heap.size (w2.heap.size + 1) #[.int .u32 0, .int .u32 0, .int .u32 0] #[.int .u8 18, .int .i64 (rd : Nat), .int .i64 (ra : Nat), .int .i64 (rb : Nat), .int .u32 i12, .int .u32 i16] #[.int .u32 0, .int .u32 0, .int .u32 0] B := by
    obtain ⟨q1, q2, q3, q4, q5, q6, q7⟩ := H0.out
    rw [← hW3]
    exact xr_start q1 q2 q3 q4 q6 HB1.out HB2.out _
  have c0 : W3.cell? ⟨w2.heap.size, 0, none⟩ = some (.int .u8 18) := hX.hi.cell 0
  have c1 : W3.cell? ⟨w2.heap.size, 1, none⟩ = some (.int .i64 (rd : Nat)) := hX.hi.cell 1
  have c2 : W3.cell? ⟨w2.heap.size, 2, none⟩ = some (.int .i64 (ra : Nat)) := hX.hi.cell 2
  have c3 : W3.cell? ⟨w2.heap.size, 3, none⟩ = some (.int .i64 (rb : Nat)) := hX.hi.cell 3
  have c4 : W3.cell? ⟨w2.heap.size, 4, none⟩ = some (.int .u32 i12) := hX.hi.cell 4
  have c5 : W3.cell? ⟨w2.heap.size, 5, none⟩ = some (.int .u32 i16) := hX.hi.cell 5
  have HXR := hid_of hX
  have hrd : rd < 16 := HD.out.1.1
  have hra : ra < 16 := HD.out.1.2.1
  have hrb : rb < 16 := HD.out.1.2.2
  have hi12 : W32 i12 := HD.out.2.1.1
  have hi16 : W32 i16 := HD.out.2.1.2
  clear hX HD HB1 HB2 H0 HX HXW HI
  go_upto_region 36 with fail
  clear hW3
  clear c0 c1 c2 c3 c4 c5
  refine wp_region_tree [0, 1, 2, 4, 5, 7, 8, 9] [3] 4 [0, 1, 4, 7, 8] mixed (fun ω => Blk ω w2.heap.size #[.int .u8 18, .int .i64 (rd : Nat), .int .i64 (ra : Nat), .int .i64 (rb : Nat), .int .u32 i12, .int .u32 i16] 132) (by kernel_rfl) rfl (by kernel_rfl) HXR.out.drew.hi ?_
  refine wpFl_op _ _ _ _ rfl rfl (fun ω hj => by go_simp; rfl) ?_
  refine wpFl_op _ _ _ _ rfl rfl (fun ω hj => by go_simp; rfl) ?_
  refine wpFl_op _ _ _ _ rfl rfl (fun ω hj => by have q : ω.cell? ⟨w2.heap.size, 2, none⟩ = some (.int .i64 (ra : Nat)) := Blk.cell (hj rfl) 2; go_simp; rfl) ?_
  refine wpFl_op _ _ _ _ rfl rfl (fun ω hj => by go_simp; rfl) ?_
  refine wpFl_op _ _ _ _ rfl rfl (fun ω hj => by have q : ω.cell? ⟨w2.heap.size, 4, none⟩ = some (.int .u32 i12) := Blk.cell (hj rfl) 4; go_simp; rfl) ?_
  refine wpFl_op _ _ _ _ rfl rfl (fun ω hj => by go_simp; rfl) ?_
  refine wpFl_op _ _ _ _ rfl rfl (fun ω hj => by go_simp; rfl) ?_
  refine wpFl_op _ _ _ _ rfl rfl (fun ω hj => by have q : ω.cell? ⟨w2.heap.size, 1, none⟩ = some (.int .i64 (rd : Nat)) := Blk.cell (hj rfl) 1; go_simp; rfl) ?_
  refine wpFl_nil _ _ ?_
  simp only [Act.put, List.setIfInBounds_toArray]
  have HX4 : Hid (XR w W3.drew pb o bb cb base fv a n cap w.heap.size w2.heap.size (w2.heap.size + 1) #[.int .u32 0, .int .u32 0, .int .u32 0] #[.int .u8 18, .int .i64 (rd : Nat), .int .i64 (ra : Nat), .int .i64 (rb : Nat), .int .u32 i12, .int .u32 i16] #[.int .u32 0, .int .u32 0, .int .u32 0] (B)) := HXR.out.drew
  clear HXR
  refine wpCh_one _ _ _ _ rfl ?_
  have HG := hid_of (reg_any pb o bb cb base ra hra hb fv _ (B) W3.drew HX4.out.cr HX4.out.br)
  go_wp2_with fail
  refine HG.out.mono ?_
  rintro e v5 ⟨rfl, hb5⟩
  have HX5 : Hid (XR w v5 pb o bb cb base fv a n cap w.heap.size w2.heap.size (w2.heap.size + 1) #[.int .u32 0, .int .u32 0, .int .u32 0] #[.int .u8 18, .int .i64 (rd : Nat), .int .i64 (ra : Nat), .int .i64 (rb : Nat), .int .u32 i12, .int .u32 i16] #[.int .u32 0, .int .u32 0, .int .u32 0] (B)) := HX4.out.below hb5
  clear hb5 HG HX4
  go_wp2_with fail
  refine ⟨HX5.out.hi, ?_⟩
  refine wpAnyJ_stepJ _ _ _ _ [6, 10] (by kernel_rfl) rfl (by kernel_rfl) ?_
  intro i hi
  simp only [List.mem_cons, List.not_mem_nil, or_false] at hi
  rcases hi with rfl | rfl
  · refine wpOp_list _ rfl ?_
    go_wp2_with fail
    refine ⟨fun _ => HX5.out.hi, ?_⟩
    refine wpAnyJ_stepJ _ _ _ _ [10] (by kernel_rfl) rfl (by kernel_rfl) ?_
    intro i hi
    obtain rfl : i = 10 := by simpa using hi
    refine wpOp_list _ rfl ?_
    have HG := hid_of (reg_any pb o bb cb base rd hrd hb fv _ (B) v5 HX5.out.cr HX5.out.br)
    go_wp2_with fail
    refine HG.out.mono ?_
    rintro e v6 ⟨rfl, hb6⟩
    have HX6 : Hid (XR w v6 pb o bb cb base fv a n cap w.heap.size w2.heap.size (w2.heap.size + 1) #[.int .u32 0, .int .u32 0, .int .u32 0] #[.int .u8 18, .int .i64 (rd : Nat), .int .i64 (ra : Nat), .int .i64 (rb : Nat), .int .u32 i12, .int .u32 i16] #[.int .u32 0, .int .u32 0, .int .u32 0] (B)) := HX5.out.below hb6
    clear hb6 HG HX5
    go_wp2_with fail
    refine ⟨fun _ => HX6.out.hi, ?_⟩
    refine wpAnyJ_stepJ _ _ _ _ [11] (by kernel_rfl) rfl (by kernel_rfl) ?_
    intro i hi
    obtain rfl : i = 11 := by simpa using hi
    refine wpOp_list _ rfl ?_
    go_wp2_with fail
    refine ⟨fun _ => HX6.out.hi, ?_⟩
    refine wpAnyJ_stepJ _ _ _ _ [12] (by kernel_rfl) rfl (by kernel_rfl) ?_
    intro i hi
    obtain rfl : i = 12 := by simpa using hi
    refine wpOp_list _ rfl ?_
    obtain ⟨u7, hu7, hl7⟩ := HX6.out.ho.out
    have HX7 : Hid (XR w (put u7 (w2.heap.size + 1) #[.int .u32 3, .int .u32 ((B.get (base + ra) + i12) % 4294967296), .int .u32 (B.get (base + rd))] 49) pb o bb cb base fv a n cap w.heap.size w2.heap.size (w2.heap.size + 1) #[.int .u32 0, .int .u32 0, .int .u32 0] #[.int .u8 18, .int .i64 (rd : Nat), .int .i64 (ra : Nat), .int .i64 (rb : Nat), .int .u32 i12, .int .u32 i16] #[.int .u32 3, .int .u32 ((B.get (base + ra) + i12) % 4294967296), .int .u32 (B.get (base + rd))] (B)) := by
      have := HX6.out.out #[.int .u32 3, .int .u32 ((B.get (base + ra) + i12) % 4294967296), .int .u32 (B.get (base + rd))]
      rw [hu7, put_put] at this
      exact this
    clear HX6
    subst hu7
    go_wp2_with fail
    refine ⟨fun _ => HX7.out.hi, ?_⟩
    refine wpAnyJ_end _ _ _ _ (by kernel_rfl) ?_
    obtain ⟨v7, hv7⟩ : ∃ v, put u7 (w2.heap.size + 1) #[.int .u32 3, .int .u32 ((B.get (base + ra) + i12) % 4294967296), .int .u32 (B.get (base + rd))] 49 = v := ⟨_, rfl⟩
    rw [hv7] at HX7 ⊢
    clear hv7 hl7
    have HS := hid_of (setMode_any pb o bb cb base hb fv _ (B) (1) v7 HX7.out.cr HX7.out.br)
    go_wp2_with fail
    refine HS.out.mono ?_
    rintro e v9 ⟨rfl, u9, hb9, hw9⟩
    have HX9 : Hid (XR w v9 pb o bb cb base fv a n cap w.heap.size w2.heap.size (w2.heap.size + 1) #[.int .u32 0, .int .u32 0, .int .u32 0] #[.int .u8 18, .int .i64 (rd : Nat), .int .i64 (ra : Nat), .int .i64 (rb : Nat), .int .u32 i12, .int .u32 i16] #[.int .u32 3, .int .u32 ((B.get (base + ra) + i12) % 4294967296), .int .u32 (B.get (base + rd))] ((B).set (base + 17) (1))) := by
      rw [hw9]; exact HX7.out.set hb9 _ _
    clear hb9 hw9 HS HX7
    have HS := hid_of (setPC_any pb o bb cb base hb fv _ ((B).set (base + 17) (1)) ((pc + 1) % 4294967296) v9 HX9.out.cr HX9.out.br)
    go_wp2_with fail
    refine HS.out.mono ?_
    rintro e v11 ⟨rfl, u11, hb11, hw11⟩
    have HX11 : Hid (XR w v11 pb o bb cb base fv a n cap w.heap.size w2.heap.size (w2.heap.size + 1) #[.int .u32 0, .int .u32 0, .int .u32 0] #[.int .u8 18, .int .i64 (rd : Nat), .int .i64 (ra : Nat), .int .i64 (rb : Nat), .int .u32 i12, .int .u32 i16] #[.int .u32 3, .int .u32 ((B.get (base + ra) + i12) % 4294967296), .int .u32 (B.get (base + rd))] (((B).set (base + 17) (1)).set (base + 16) ((pc + 1) % 4294967296))) := by
      rw [hw11]; exact HX9.out.set hb11 _ _
    clear hb11 hw11 HS HX9
    have d0 : v11.cell? ⟨w2.heap.size + 1, 0, none⟩ = some (#[.int .u32 3, .int .u32 ((B.get (base + ra) + i12) % 4294967296), .int .u32 (B.get (base + rd))][0]) := HX11.out.ho.cell 0
    have d1 : v11.cell? ⟨w2.heap.size + 1, 1, none⟩ = some (#[.int .u32 3, .int .u32 ((B.get (base + ra) + i12) % 4294967296), .int .u32 (B.get (base + rd))][1]) := HX11.out.ho.cell 1
    have d2 : v11.cell? ⟨w2.heap.size + 1, 2, none⟩ = some (#[.int .u32 3, .int .u32 ((B.get (base + ra) + i12) % 4294967296), .int .u32 (B.get (base + rd))][2]) := HX11.out.ho.cell 2
    simp only [List.getElem_toArray, List.getElem_cons_succ, List.getElem_cons_zero] at d0 d1 d2
    obtain ⟨w9, hw9, hl9⟩ := HX11.out.hr.out
    have HFIN : Hid (Tn w (put w9 w.heap.size #[.int .u32 3, .int .u32 ((B.get (base + ra) + i12) % 4294967296), .int .u32 (B.get (base + rd))] 49) cb (((B).set (base + 17) (1)).set (base + 16) ((pc + 1) % 4294967296)).c) := by
      have := HX11.out.ret w.heap.size (Nat.le_refl _) #[.int .u32 3, .int .u32 ((B.get (base + ra) + i12) % 4294967296), .int .u32 (B.get (base + rd))] 49
      rw [hw9, put_put] at this
      exact this
    clear HX11
    subst hw9
    go_wp2_with fail
    exact bodyPost_ret (v := .agg #[.int .u32 3, .int .u32 ((B.get (base + ra) + i12) % 4294967296), .int .u32 (B.get (base + rd))]) (results_cell_row (by rfl) _ _ w.heap.size 49 _ (0, 0) _ (by rfl) (Blk.put_same hl9) Try.underlying49 rfl (by rw [size49]; rfl)) rfl ⟨by rw [hE.out]; rfl, by rw [hE.out]; exact HFIN.out⟩
  · refine wpOp_list _ rfl ?_
    have HG := hid_of (reg_any pb o bb cb base rd hrd hb fv _ (B) v5 HX5.out.cr HX5.out.br)
    go_wp2_with fail
    refine HG.out.mono ?_
    rintro e v6 ⟨rfl, hb6⟩
    have HX6 : Hid (XR w v6 pb o bb cb base fv a n cap w.heap.size w2.heap.size (w2.heap.size + 1) #[.int .u32 0, .int .u32 0, .int .u32 0] #[.int .u8 18, .int .i64 (rd : Nat), .int .i64 (ra : Nat), .int .i64 (rb : Nat), .int .u32 i12, .int .u32 i16] #[.int .u32 0, .int .u32 0, .int .u32 0] (B)) := HX5.out.below hb6
    clear hb6 HG HX5
    go_wp2_with fail
    refine ⟨fun _ => HX6.out.hi, ?_⟩
    refine wpAnyJ_stepJ _ _ _ _ [6] (by kernel_rfl) rfl (by kernel_rfl) ?_
    intro i hi
    obtain rfl : i = 6 := by simpa using hi
    refine wpOp_list _ rfl ?_
    go_wp2_with fail
    refine ⟨fun _ => HX6.out.hi, ?_⟩
    refine wpAnyJ_stepJ _ _ _ _ [11] (by kernel_rfl) rfl (by kernel_rfl) ?_
    intro i hi
    obtain rfl : i = 11 := by simpa using hi
    refine wpOp_list _ rfl ?_
    go_wp2_with fail
    refine ⟨fun _ => HX6.out.hi, ?_⟩
    refine wpAnyJ_stepJ _ _ _ _ [12] (by kernel_rfl) rfl (by kernel_rfl) ?_
    intro i hi
    obtain rfl : i = 12 := by simpa using hi
    refine wpOp_list _ rfl ?_
    obtain ⟨u7, hu7, hl7⟩ := HX6.out.ho.out
    have HX7 : Hid (XR w (put u7 (w2.heap.size + 1) #[.int .u32 3, .int .u32 ((B.get (base + ra) + i12) % 4294967296), .int .u32 (B.get (base + rd))] 49) pb o bb cb base fv a n cap w.heap.size w2.heap.size (w2.heap.size + 1) #[.int .u32 0, .int .u32 0, .int .u32 0] #[.int .u8 18, .int .i64 (rd : Nat), .int .i64 (ra : Nat), .int .i64 (rb : Nat), .int .u32 i12, .int .u32 i16] #[.int .u32 3, .int .u32 ((B.get (base + ra) + i12) % 4294967296), .int .u32 (B.get (base + rd))] (B)) := by
      have := HX6.out.out #[.int .u32 3, .int .u32 ((B.get (base + ra) + i12) % 4294967296), .int .u32 (B.get (base + rd))]
      rw [hu7, put_put] at this
      exact this
    clear HX6
    subst hu7
    go_wp2_with fail
    refine ⟨fun _ => HX7.out.hi, ?_⟩
    refine wpAnyJ_end _ _ _ _ (by kernel_rfl) ?_
    obtain ⟨v7, hv7⟩ : ∃ v, put u7 (w2.heap.size + 1) #[.int .u32 3, .int .u32 ((B.get (base + ra) + i12) % 4294967296), .int .u32 (B.get (base + rd))] 49 = v := ⟨_, rfl⟩
    rw [hv7] at HX7 ⊢
    clear hv7 hl7
    have HS := hid_of (setMode_any pb o bb cb base hb fv _ (B) (1) v7 HX7.out.cr HX7.out.br)
    go_wp2_with fail
    refine HS.out.mono ?_
    rintro e v9 ⟨rfl, u9, hb9, hw9⟩
    have HX9 : Hid (XR w v9 pb o bb cb base fv a n cap w.heap.size w2.heap.size (w2.heap.size + 1) #[.int .u32 0, .int .u32 0, .int .u32 0] #[.int .u8 18, .int .i64 (rd : Nat), .int .i64 (ra : Nat), .int .i64 (rb : Nat), .int .u32 i12, .int .u32 i16] #[.int .u32 3, .int .u32 ((B.get (base + ra) + i12) % 4294967296), .int .u32 (B.get (base + rd))] ((B).set (base + 17) (1))) := by
      rw [hw9]; exact HX7.out.set hb9 _ _
    clear hb9 hw9 HS HX7
    have HS := hid_of (setPC_any pb o bb cb base hb fv _ ((B).set (base + 17) (1)) ((pc + 1) % 4294967296) v9 HX9.out.cr HX9.out.br)
    go_wp2_with fail
    refine HS.out.mono ?_
    rintro e v11 ⟨rfl, u11, hb11, hw11⟩
    have HX11 : Hid (XR w v11 pb o bb cb base fv a n cap w.heap.size w2.heap.size (w2.heap.size + 1) #[.int .u32 0, .int .u32 0, .int .u32 0] #[.int .u8 18, .int .i64 (rd : Nat), .int .i64 (ra : Nat), .int .i64 (rb : Nat), .int .u32 i12, .int .u32 i16] #[.int .u32 3, .int .u32 ((B.get (base + ra) + i12) % 4294967296), .int .u32 (B.get (base + rd))] (((B).set (base + 17) (1)).set (base + 16) ((pc + 1) % 4294967296))) := by
      rw [hw11]; exact HX9.out.set hb11 _ _
    clear hb11 hw11 HS HX9
    have d0 : v11.cell? ⟨w2.heap.size + 1, 0, none⟩ = some (#[.int .u32 3, .int .u32 ((B.get (base + ra) + i12) % 4294967296), .int .u32 (B.get (base + rd))][0]) := HX11.out.ho.cell 0
    have d1 : v11.cell? ⟨w2.heap.size + 1, 1, none⟩ = some (#[.int .u32 3, .int .u32 ((B.get (base + ra) + i12) % 4294967296), .int .u32 (B.get (base + rd))][1]) := HX11.out.ho.cell 1
    have d2 : v11.cell? ⟨w2.heap.size + 1, 2, none⟩ = some (#[.int .u32 3, .int .u32 ((B.get (base + ra) + i12) % 4294967296), .int .u32 (B.get (base + rd))][2]) := HX11.out.ho.cell 2
    simp only [List.getElem_toArray, List.getElem_cons_succ, List.getElem_cons_zero] at d0 d1 d2
    obtain ⟨w9, hw9, hl9⟩ := HX11.out.hr.out
    have HFIN : Hid (Tn w (put w9 w.heap.size #[.int .u32 3, .int .u32 ((B.get (base + ra) + i12) % 4294967296), .int .u32 (B.get (base + rd))] 49) cb (((B).set (base + 17) (1)).set (base + 16) ((pc + 1) % 4294967296)).c) := by
      have := HX11.out.ret w.heap.size (Nat.le_refl _) #[.int .u32 3, .int .u32 ((B.get (base + ra) + i12) % 4294967296), .int .u32 (B.get (base + rd))] 49
      rw [hw9, put_put] at this
      exact this
    clear HX11
    subst hw9
    go_wp2_with fail
    exact bodyPost_ret (v := .agg #[.int .u32 3, .int .u32 ((B.get (base + ra) + i12) % 4294967296), .int .u32 (B.get (base + rd))]) (results_cell_row (by rfl) _ _ w.heap.size 49 _ (0, 0) _ (by rfl) (Blk.put_same hl9) Try.underlying49 rfl (by rw [size49]; rfl)) rfl ⟨by rw [hE.out]; rfl, by rw [hE.out]; exact HFIN.out⟩
set_option linter.unusedVariables false in
set_option maxRecDepth 100000 in
set_option maxHeartbeats 4000000 in
theorem ex_19t (pb o bb cb base : Nat) (hb : base ≤ 18) (fv : Value) (a : Option Addr) (n cap : Nat) (prog : List Int) (hn : prog.length = n) (hn6 : n ≤ 64) (hpr : ∀ x ∈ prog, W32 x) (B : BD) (hB : B.Ok) (w : World) (hc : CR w pb o bb base (.slice a n cap)) (h : BR w bb cb fv B) (hS : Sl w (.slice a n cap) 30 1 n (prow prog)) (hpc : pb ≠ cb)
    (htk : takF 19 (B.get (base + (decF (fetF prog (B.get (base + 16)))).ra)) (B.get (base + (decF (fetF prog (B.get (base + 16)))).rb)) = true)
    (hop : (decF (fetF prog (B.get (base + 16)))).op = 19) :
    Calls Try.prog 77 #[.pointer (some ⟨pb, o, none⟩)] w fun e w' => e = .returned (.agg (buV (execF prog base B).2)) ∧ Tn w w' cb (execF prog base B).1.c := by
  have hpcw := hB.get (base + 16)
  obtain ⟨pc, hpcd⟩ : ∃ pc, B.get (base + 16) = pc := ⟨_, rfl⟩
  have hfw : W32 (fetF prog pc) := fetF_w32 hpr pc (by rw [hpcd] at hpcw; exact hpcw)
  obtain ⟨x, hx⟩ : ∃ x, fetF prog pc = x := ⟨_, rfl⟩
  have hdec := decF_ok x (by rw [← hx]; exact hfw)
  rw [hpcd, hx] at hop htk
  have hE : Hid (execF prog base B = execI base pc (decF x) B) := by unfold Hid execF; rw [hpcd, hx]
  obtain ⟨W, hW⟩ : ∃ W, w.alloc (.cells #[.int .u32 0, .int .u32 0, .int .u32 0] 49) = W := ⟨_, rfl⟩
  have hbel : Below w.heap.size w W := by rw [← hW]; exact (Below.refl _ _).alloc (Nat.le_refl _) _
  have hbn : Blk W w.heap.size #[.int .u32 0, .int .u32 0, .int .u32 0] 49 := by rw [← hW]; exact Blk.new _ _ _
  have hc1 : CR W pb o bb base (.slice a n cap) := by rw [← hW]; exact ⟨ca1 _ _ _ _ hc.c0, ca1 _ _ _ _ hc.c1, ca1 _ _ _ _ hc.c2⟩
  have hB1 := h.below hbel
  have HP := hid_of (pc_any pb o bb cb base hb fv _ B W hc1 hB1)
  rw [hpcd] at HP
  have H0 := hid_of (And.intro hbel (And.intro hbn (And.intro hc (And.intro h (And.intro hS (And.intro hpc hn))))))
  have HD := hid_of hdec
  have hplt := World.block_lt_of_cell? _ _ hc.c0
  have hclt := h.cel.lt
  have HOK := hid_of hB
  have HPW : Hid (W32 pc) := by rw [← hpcd]; exact hpcw
  have HXW : Hid (W32 x) := by rw [← hx]; exact hfw
  have HX := hid_of hx
  have HGET := hid_of hpcd
  clear hc h hbn hbel hc1 hB1 hdec hS hpc hn hB hpr hpcw hfw hx hpcd
  obtain ⟨I, hI⟩ : ∃ I, decF x = I := ⟨_, rfl⟩
  rw [hI] at hop hE HD htk
  have HI := hid_of hI
  clear hI
  obtain ⟨op, rd, ra, rb, i12, i16⟩ := I
  simp only [] at hop
  obtain rfl := hop
  have HTK : Hid (takF 19 (B.get (base + ra)) (B.get (base + rb)) = true) := htk
  clear htk
  go_enter Try.func77, Try.ntmps77
  go_upto_region 1 with fail
  clear hW
  refine wp_region_list ?_
  go_wp2_with fail
  refine HP.out.mono ?_
  rintro e w1 ⟨rfl, hb1⟩
  have HB1 := hid_of hb1
  have HF : Hid (Calls Try.prog 86 #[.pointer (some ⟨pb, o, none⟩), .int .u32 pc] w1 fun e w' => e = .returned (.int .u32 x) ∧ w' = w1) := by
    rw [← HX.out]
    obtain ⟨q1, q2, q3, q4, q5, q6, q7⟩ := H0.out
    have b2 : Below w.heap.size w w1 := q1.trans (hb1.mono q1.size)
    have c2 : w1.cell? ⟨pb, o + 2, none⟩ = some (.slice a n cap) := by
      have := q3.c2; simp only [World.cell?] at this ⊢; rw [b2.block _ hplt]; exact this
    exact fetch_any pb o a n cap prog q7 hn6 pc HPW.out w1 c2 (q5.same fun k hk => b2.block k (q5.lt k hk))
  have HDE : Hid (Calls Try.prog 85 #[.int .u32 x] w1 fun e w' => e = .returned (.agg #[.int .u8 19, .int .i64 (rd : Nat), .int .i64 (ra : Nat), .int .i64 (rb : Nat), .int .u32 i12, .int .u32 i16]) ∧ Below w1.heap.size w1 w') := by
    have := decode_any x HXW.out w1
    rw [HI.out] at this
    exact this
  clear hb1 HP
  go_upto_region 2 with fail
  refine wp_region_list ?_
  go_wp2_with fail
  refine HF.out.mono ?_
  rintro e w2 ⟨rfl, hw2⟩
  obtain rfl := hw2.symm
  go_wp2_with fail
  refine HDE.out.mono ?_
  rintro e w2 ⟨rfl, hb2⟩
  have HB2 := hid_of hb2
  clear hb2 HF HDE
  obtain ⟨W3, hW3⟩ : ∃ W3, (w2.alloc (.cells #[.int .u8 19, .int .i64 (rd : Nat), .int .i64 (ra : Nat), .int .i64 (rb : Nat), .int .u32 i12, .int .u32 i16] 132)).alloc (.cells #[.int .u32 0, .int .u32 0, .int .u32 0] 49) = W3 := ⟨_, rfl⟩
  have hX : XR w W3 pb o bb cb base fv a n cap w.heap.size w2.heap.size (w2.heap.size + 1) #[.int .u32 0, .int .u32 0, .int .u32 0] #[.int .u8 19, .int .i64 (rd : Nat), .int .i64 (ra : Nat), .int .i64 (rb : Nat), .int .u32 i12, .int .u32 i16] #[.int .u32 0, .int .u32 0, .int .u32 0] B := by
    obtain ⟨q1, q2, q3, q4, q5, q6, q7⟩ := H0.out
    rw [← hW3]
    exact xr_start q1 q2 q3 q4 q6 HB1.out HB2.out _
  have c0 : W3.cell? ⟨w2.heap.size, 0, none⟩ = some (.int .u8 19) := hX.hi.cell 0
  have c1 : W3.cell? ⟨w2.heap.size, 1, none⟩ = some (.int .i64 (rd : Nat)) := hX.hi.cell 1
  have c2 : W3.cell? ⟨w2.heap.size, 2, none⟩ = some (.int .i64 (ra : Nat)) := hX.hi.cell 2
  have c3 : W3.cell? ⟨w2.heap.size, 3, none⟩ = some (.int .i64 (rb : Nat)) := hX.hi.cell 3
  have c4 : W3.cell? ⟨w2.heap.size, 4, none⟩ = some (.int .u32 i12) := hX.hi.cell 4
  have c5 : W3.cell? ⟨w2.heap.size, 5, none⟩ = some (.int .u32 i16) := hX.hi.cell 5
  have HXR := hid_of hX
  have hrd : rd < 16 := HD.out.1.1
  have hra : ra < 16 := HD.out.1.2.1
  have hrb : rb < 16 := HD.out.1.2.2
  have hi12 : W32 i12 := HD.out.2.1.1
  have hi16 : W32 i16 := HD.out.2.1.2
  clear hX HD HB1 HB2 H0 HX HXW HI
  go_upto_region 41 with fail
  clear hW3
  clear c0 c1 c2 c3 c4 c5
  refine wp_region_float [0, 1, 2, 3, 4, 6, 7, 8] [5, 9, 10] [0, 2, 3, 6, 7] mixed (fun ω => Blk ω w2.heap.size #[.int .u8 19, .int .i64 (rd : Nat), .int .i64 (ra : Nat), .int .i64 (rb : Nat), .int .u32 i12, .int .u32 i16] 132) (by kernel_rfl) rfl (by kernel_rfl) HXR.out.drew.hi ?_
  refine wpFl_op _ _ _ _ rfl rfl (fun ω hj => by go_simp; rfl) ?_
  refine wpFl_op _ _ _ _ rfl rfl (fun ω hj => by have q : ω.cell? ⟨w2.heap.size, 0, none⟩ = some (.int .u8 19) := Blk.cell (hj rfl) 0; go_simp; rfl) ?_
  refine wpFl_op _ _ _ _ rfl rfl (fun ω hj => by go_simp; rfl) ?_
  refine wpFl_op _ _ _ _ rfl rfl (fun ω hj => by go_simp; rfl) ?_
  refine wpFl_op _ _ _ _ rfl rfl (fun ω hj => by have q : ω.cell? ⟨w2.heap.size, 2, none⟩ = some (.int .i64 (ra : Nat)) := Blk.cell (hj rfl) 2; go_simp; rfl) ?_
  refine wpFl_op _ _ _ _ rfl rfl (fun ω hj => by go_simp; rfl) ?_
  refine wpFl_op _ _ _ _ rfl rfl (fun ω hj => by go_simp; rfl) ?_
  refine wpFl_op _ _ _ _ rfl rfl (fun ω hj => by have q : ω.cell? ⟨w2.heap.size, 3, none⟩ = some (.int .i64 (rb : Nat)) := Blk.cell (hj rfl) 3; go_simp; rfl) ?_
  refine wpFl_nil _ _ ?_
  simp only [Act.put, List.setIfInBounds_toArray]
  have HX4 : Hid (XR w W3.drew pb o bb cb base fv a n cap w.heap.size w2.heap.size (w2.heap.size + 1) #[.int .u32 0, .int .u32 0, .int .u32 0] #[.int .u8 19, .int .i64 (rd : Nat), .int .i64 (ra : Nat), .int .i64 (rb : Nat), .int .u32 i12, .int .u32 i16] #[.int .u32 0, .int .u32 0, .int .u32 0] (B)) := HXR.out.drew
  clear HXR
  refine wpCh_one _ _ _ _ rfl ?_
  have HG := hid_of (reg_any pb o bb cb base ra hra hb fv _ (B) W3.drew HX4.out.cr HX4.out.br)
  go_wp2_with fail
  refine HG.out.mono ?_
  rintro e v5 ⟨rfl, hb5⟩
  have HX5 : Hid (XR w v5 pb o bb cb base fv a n cap w.heap.size w2.heap.size (w2.heap.size + 1) #[.int .u32 0, .int .u32 0, .int .u32 0] #[.int .u8 19, .int .i64 (rd : Nat), .int .i64 (ra : Nat), .int .i64 (rb : Nat), .int .u32 i12, .int .u32 i16] #[.int .u32 0, .int .u32 0, .int .u32 0] (B)) := HX4.out.below hb5
  clear hb5 HG HX4
  go_wp2_with fail
  refine ⟨HX5.out.hi, ?_⟩
  refine wpCh_one _ _ _ _ rfl ?_
  have HG := hid_of (reg_any pb o bb cb base rb hrb hb fv _ (B) v5 HX5.out.cr HX5.out.br)
  go_wp2_with fail
  refine HG.out.mono ?_
  rintro e v6 ⟨rfl, hb6⟩
  have HX6 : Hid (XR w v6 pb o bb cb base fv a n cap w.heap.size w2.heap.size (w2.heap.size + 1) #[.int .u32 0, .int .u32 0, .int .u32 0] #[.int .u8 19, .int .i64 (rd : Nat), .int .i64 (ra : Nat), .int .i64 (rb : Nat), .int .u32 i12, .int .u32 i16] #[.int .u32 0, .int .u32 0, .int .u32 0] (B)) := HX5.out.below hb6
  clear hb6 HG HX5
  go_wp2_with fail
  refine ⟨HX6.out.hi, ?_⟩
  refine wpCh_rest _ _ _ _ [_] _ _ rfl (by kernel_rfl) ?_
  simp only [List.getElem_toArray, List.getElem_cons_succ, List.getElem_cons_zero]
  have HT := hid_of (taken_any 19 (B.get (base + ra)) (B.get (base + rb)) (by decide) v6)
  rw [HTK.out] at HT
  go_wp2_with fail
  refine HT.out.mono ?_
  rintro e v99 ⟨rfl, hw99⟩
  obtain rfl := hw99.symm
  clear HT
  have c4 : v6.cell? ⟨w2.heap.size, 4, none⟩ = some (.int .u32 i12) := HX6.out.hi.cell 4
  have HS := hid_of (setPC_any pb o bb cb base hb fv _ (B) ((pc + i12) % 4294967296) v6 HX6.out.cr HX6.out.br)
  go_wp2_with fail
  refine HS.out.mono ?_
  rintro e v8 ⟨rfl, u8, hb8, hw8⟩
  have HX8 : Hid (XR w v8 pb o bb cb base fv a n cap w.heap.size w2.heap.size (w2.heap.size + 1) #[.int .u32 0, .int .u32 0, .int .u32 0] #[.int .u8 19, .int .i64 (rd : Nat), .int .i64 (ra : Nat), .int .i64 (rb : Nat), .int .u32 i12, .int .u32 i16] #[.int .u32 0, .int .u32 0, .int .u32 0] ((B).set (base + 16) ((pc + i12) % 4294967296))) := by
    rw [hw8]; exact HX6.out.set hb8 _ _
  clear hb8 hw8 HS HX6
  have d0 : v8.cell? ⟨w2.heap.size + 1, 0, none⟩ = some (#[.int .u32 0, .int .u32 0, .int .u32 0][0]) := HX8.out.ho.cell 0
  have d1 : v8.cell? ⟨w2.heap.size + 1, 1, none⟩ = some (#[.int .u32 0, .int .u32 0, .int .u32 0][1]) := HX8.out.ho.cell 1
  have d2 : v8.cell? ⟨w2.heap.size + 1, 2, none⟩ = some (#[.int .u32 0, .int .u32 0, .int .u32 0][2]) := HX8.out.ho.cell 2
  simp only [List.getElem_toArray, List.getElem_cons_succ, List.getElem_cons_zero] at d0 d1 d2
  obtain ⟨w9, hw9, hl9⟩ := HX8.out.hr.out
  have HFIN : Hid (Tn w (put w9 w.heap.size #[.int .u32 0, .int .u32 0, .int .u32 0] 49) cb ((B).set (base + 16) ((pc + i12) % 4294967296)).c) := by
    have := HX8.out.ret w.heap.size (Nat.le_refl _) #[.int .u32 0, .int .u32 0, .int .u32 0] 49
    rw [hw9, put_put] at this
    exact this
  clear HX8
  subst hw9
  go_wp2_with fail
  exact bodyPost_ret (v := .agg #[.int .u32 0, .int .u32 0, .int .u32 0]) (results_cell_row (by rfl) _ _ w.heap.size 49 _ (0, 0) _ (by rfl) (Blk.put_same hl9) Try.underlying49 rfl (by rw [size49]; rfl)) rfl ⟨by rw [hE.out]; rfl, by rw [hE.out]; show Tn w _ cb (B.set (base + 16) (if takF 19 (B.get (base + ra)) (B.get (base + rb)) = true then (pc + i12) % 4294967296 else (pc + 1) % 4294967296)).c; rw [HTK.out]; exact HFIN.out⟩
set_option linter.unusedVariables false in
set_option maxRecDepth 100000 in
set_option maxHeartbeats 4000000 in
theorem ex_19f (pb o bb cb base : Nat) (hb : base ≤ 18) (fv : Value) (a : Option Addr) (n cap : Nat) (prog : List Int) (hn : prog.length = n) (hn6 : n ≤ 64) (hpr : ∀ x ∈ prog, W32 x) (B : BD) (hB : B.Ok) (w : World) (hc : CR w pb o bb base (.slice a n cap)) (h : BR w bb cb fv B) (hS : Sl w (.slice a n cap) 30 1 n (prow prog)) (hpc : pb ≠ cb)
    (htk : takF 19 (B.get (base + (decF (fetF prog (B.get (base + 16)))).ra)) (B.get (base + (decF (fetF prog (B.get (base + 16)))).rb)) = false)
    (hop : (decF (fetF prog (B.get (base + 16)))).op = 19) :
    Calls Try.prog 77 #[.pointer (some ⟨pb, o, none⟩)] w fun e w' => e = .returned (.agg (buV (execF prog base B).2)) ∧ Tn w w' cb (execF prog base B).1.c := by
  have hpcw := hB.get (base + 16)
  obtain ⟨pc, hpcd⟩ : ∃ pc, B.get (base + 16) = pc := ⟨_, rfl⟩
  have hfw : W32 (fetF prog pc) := fetF_w32 hpr pc (by rw [hpcd] at hpcw; exact hpcw)
  obtain ⟨x, hx⟩ : ∃ x, fetF prog pc = x := ⟨_, rfl⟩
  have hdec := decF_ok x (by rw [← hx]; exact hfw)
  rw [hpcd, hx] at hop htk
  have hE : Hid (execF prog base B = execI base pc (decF x) B) := by unfold Hid execF; rw [hpcd, hx]
  obtain ⟨W, hW⟩ : ∃ W, w.alloc (.cells #[.int .u32 0, .int .u32 0, .int .u32 0] 49) = W := ⟨_, rfl⟩
  have hbel : Below w.heap.size w W := by rw [← hW]; exact (Below.refl _ _).alloc (Nat.le_refl _) _
  have hbn : Blk W w.heap.size #[.int .u32 0, .int .u32 0, .int .u32 0] 49 := by rw [← hW]; exact Blk.new _ _ _
  have hc1 : CR W pb o bb base (.slice a n cap) := by rw [← hW]; exact ⟨ca1 _ _ _ _ hc.c0, ca1 _ _ _ _ hc.c1, ca1 _ _ _ _ hc.c2⟩
  have hB1 := h.below hbel
  have HP := hid_of (pc_any pb o bb cb base hb fv _ B W hc1 hB1)
  rw [hpcd] at HP
  have H0 := hid_of (And.intro hbel (And.intro hbn (And.intro hc (And.intro h (And.intro hS (And.intro hpc hn))))))
  have HD := hid_of hdec
  have hplt := World.block_lt_of_cell? _ _ hc.c0
  have hclt := h.cel.lt
  have HOK := hid_of hB
  have HPW : Hid (W32 pc) := by rw [← hpcd]; exact hpcw
  have HXW : Hid (W32 x) := by rw [← hx]; exact hfw
  have HX := hid_of hx
  have HGET := hid_of hpcd
  clear hc h hbn hbel hc1 hB1 hdec hS hpc hn hB hpr hpcw hfw hx hpcd
  obtain ⟨I, hI⟩ : ∃ I, decF x = I := ⟨_, rfl⟩
  rw [hI] at hop hE HD htk
  have HI := hid_of hI
  clear hI
  obtain ⟨op, rd, ra, rb, i12, i16⟩ := I
  simp only [] at hop
  obtain rfl := hop
  have HTK : Hid (takF 19 (B.get (base + ra)) (B.get (base + rb)) = false) := htk
  clear htk
  go_enter Try.func77, Try.ntmps77
  go_upto_region 1 with fail
  clear hW
  refine wp_region_list ?_
  go_wp2_with fail
  refine HP.out.mono ?_
  rintro e w1 ⟨rfl, hb1⟩
  have HB1 := hid_of hb1
  have HF : Hid (Calls Try.prog 86 #[.pointer (some ⟨pb, o, none⟩), .int .u32 pc] w1 fun e w' => e = .returned (.int .u32 x) ∧ w' = w1) := by
    rw [← HX.out]
    obtain ⟨q1, q2, q3, q4, q5, q6, q7⟩ := H0.out
    have b2 : Below w.heap.size w w1 := q1.trans (hb1.mono q1.size)
    have c2 : w1.cell? ⟨pb, o + 2, none⟩ = some (.slice a n cap) := by
      have := q3.c2; simp only [World.cell?] at this ⊢; rw [b2.block _ hplt]; exact this
    exact fetch_any pb o a n cap prog q7 hn6 pc HPW.out w1 c2 (q5.same fun k hk => b2.block k (q5.lt k hk))
  have HDE : Hid (Calls Try.prog 85 #[.int .u32 x] w1 fun e w' => e = .returned (.agg #[.int .u8 19, .int .i64 (rd : Nat), .int .i64 (ra : Nat), .int .i64 (rb : Nat), .int .u32 i12, .int .u32 i16]) ∧ Below w1.heap.size w1 w') := by
    have := decode_any x HXW.out w1
    rw [HI.out] at this
    exact this
  clear hb1 HP
  go_upto_region 2 with fail
  refine wp_region_list ?_
  go_wp2_with fail
  refine HF.out.mono ?_
  rintro e w2 ⟨rfl, hw2⟩
  obtain rfl := hw2.symm
  go_wp2_with fail
  refine HDE.out.mono ?_
  rintro e w2 ⟨rfl, hb2⟩
  have HB2 := hid_of hb2
  clear hb2 HF HDE
  obtain ⟨W3, hW3⟩ : ∃ W3, (w2.alloc (.cells #[.int .u8 19, .int .i64 (rd : Nat), .int .i64 (ra : Nat), .int .i64 (rb : Nat), .int .u32 i12, .int .u32 i16] 132)).alloc (.cells #[.int .u32 0, .int .u32 0, .int .u32 0] 49) = W3 := ⟨_, rfl⟩
  have hX : XR w W3 pb o bb cb base fv a n cap w.heap.size w2.heap.size (w2.heap.size + 1) #[.int .u32 0, .int .u32 0, .int .u32 0] #[.int .u8 19, .int .i64 (rd : Nat), .int .i64 (ra : Nat), .int .i64 (rb : Nat), .int .u32 i12, .int .u32 i16] #[.int .u32 0, .int .u32 0, .int .u32 0] B := by
    obtain ⟨q1, q2, q3, q4, q5, q6, q7⟩ := H0.out
    rw [← hW3]
    exact xr_start q1 q2 q3 q4 q6 HB1.out HB2.out _
  have c0 : W3.cell? ⟨w2.heap.size, 0, none⟩ = some (.int .u8 19) := hX.hi.cell 0
  have c1 : W3.cell? ⟨w2.heap.size, 1, none⟩ = some (.int .i64 (rd : Nat)) := hX.hi.cell 1
  have c2 : W3.cell? ⟨w2.heap.size, 2, none⟩ = some (.int .i64 (ra : Nat)) := hX.hi.cell 2
  have c3 : W3.cell? ⟨w2.heap.size, 3, none⟩ = some (.int .i64 (rb : Nat)) := hX.hi.cell 3
  have c4 : W3.cell? ⟨w2.heap.size, 4, none⟩ = some (.int .u32 i12) := hX.hi.cell 4
  have c5 : W3.cell? ⟨w2.heap.size, 5, none⟩ = some (.int .u32 i16) := hX.hi.cell 5
  have HXR := hid_of hX
  have hrd : rd < 16 := HD.out.1.1
  have hra : ra < 16 := HD.out.1.2.1
  have hrb : rb < 16 := HD.out.1.2.2
  have hi12 : W32 i12 := HD.out.2.1.1
  have hi16 : W32 i16 := HD.out.2.1.2
  clear hX HD HB1 HB2 H0 HX HXW HI
  go_upto_region 41 with fail
  clear hW3
  clear c0 c1 c2 c3 c4 c5
  refine wp_region_float [0, 1, 2, 3, 4, 6, 7, 8] [5, 9, 10] [0, 2, 3, 6, 7] mixed (fun ω => Blk ω w2.heap.size #[.int .u8 19, .int .i64 (rd : Nat), .int .i64 (ra : Nat), .int .i64 (rb : Nat), .int .u32 i12, .int .u32 i16] 132) (by kernel_rfl) rfl (by kernel_rfl) HXR.out.drew.hi ?_
  refine wpFl_op _ _ _ _ rfl rfl (fun ω hj => by go_simp; rfl) ?_
  refine wpFl_op _ _ _ _ rfl rfl (fun ω hj => by have q : ω.cell? ⟨w2.heap.size, 0, none⟩ = some (.int .u8 19) := Blk.cell (hj rfl) 0; go_simp; rfl) ?_
  refine wpFl_op _ _ _ _ rfl rfl (fun ω hj => by go_simp; rfl) ?_
  refine wpFl_op _ _ _ _ rfl rfl (fun ω hj => by go_simp; rfl) ?_
  refine wpFl_op _ _ _ _ rfl rfl (fun ω hj => by have q : ω.cell? ⟨w2.heap.size, 2, none⟩ = some (.int .i64 (ra : Nat)) := Blk.cell (hj rfl) 2; go_simp; rfl) ?_
  refine wpFl_op _ _ _ _ rfl rfl (fun ω hj => by go_simp; rfl) ?_
  refine wpFl_op _ _ _ _ rfl rfl (fun ω hj => by go_simp; rfl) ?_
  refine wpFl_op _ _ _ _ rfl rfl (fun ω hj => by have q : ω.cell? ⟨w2.heap.size, 3, none⟩ = some (.int .i64 (rb : Nat)) := Blk.cell (hj rfl) 3; go_simp; rfl) ?_
  refine wpFl_nil _ _ ?_
  simp only [Act.put, List.setIfInBounds_toArray]
  have HX4 : Hid (XR w W3.drew pb o bb cb base fv a n cap w.heap.size w2.heap.size (w2.heap.size + 1) #[.int .u32 0, .int .u32 0, .int .u32 0] #[.int .u8 19, .int .i64 (rd : Nat), .int .i64 (ra : Nat), .int .i64 (rb : Nat), .int .u32 i12, .int .u32 i16] #[.int .u32 0, .int .u32 0, .int .u32 0] (B)) := HXR.out.drew
  clear HXR
  refine wpCh_one _ _ _ _ rfl ?_
  have HG := hid_of (reg_any pb o bb cb base ra hra hb fv _ (B) W3.drew HX4.out.cr HX4.out.br)
  go_wp2_with fail
  refine HG.out.mono ?_
  rintro e v5 ⟨rfl, hb5⟩
  have HX5 : Hid (XR w v5 pb o bb cb base fv a n cap w.heap.size w2.heap.size (w2.heap.size + 1) #[.int .u32 0, .int .u32 0, .int .u32 0] #[.int .u8 19, .int .i64 (rd : Nat), .int .i64 (ra : Nat), .int .i64 (rb : Nat), .int .u32 i12, .int .u32 i16] #[.int .u32 0, .int .u32 0, .int .u32 0] (B)) := HX4.out.below hb5
  clear hb5 HG HX4
  go_wp2_with fail
  refine ⟨HX5.out.hi, ?_⟩
  refine wpCh_one _ _ _ _ rfl ?_
  have HG := hid_of (reg_any pb o bb cb base rb hrb hb fv _ (B) v5 HX5.out.cr HX5.out.br)
  go_wp2_with fail
  refine HG.out.mono ?_
  rintro e v6 ⟨rfl, hb6⟩
  have HX6 : Hid (XR w v6 pb o bb cb base fv a n cap w.heap.size w2.heap.size (w2.heap.size + 1) #[.int .u32 0, .int .u32 0, .int .u32 0] #[.int .u8 19, .int .i64 (rd : Nat), .int .i64 (ra : Nat), .int .i64 (rb : Nat), .int .u32 i12, .int .u32 i16] #[.int .u32 0, .int .u32 0, .int .u32 0] (B)) := HX5.out.below hb6
  clear hb6 HG HX5
  go_wp2_with fail
  refine ⟨HX6.out.hi, ?_⟩
  refine wpCh_rest _ _ _ _ [_] _ _ rfl (by kernel_rfl) ?_
  simp only [List.getElem_toArray, List.getElem_cons_succ, List.getElem_cons_zero]
  have HT := hid_of (taken_any 19 (B.get (base + ra)) (B.get (base + rb)) (by decide) v6)
  rw [HTK.out] at HT
  go_wp2_with fail
  refine HT.out.mono ?_
  rintro e v99 ⟨rfl, hw99⟩
  obtain rfl := hw99.symm
  clear HT
  have HS := hid_of (setPC_any pb o bb cb base hb fv _ (B) ((pc + 1) % 4294967296) v6 HX6.out.cr HX6.out.br)
  go_wp2_with fail
  refine HS.out.mono ?_
  rintro e v8 ⟨rfl, u8, hb8, hw8⟩
  have HX8 : Hid (XR w v8 pb o bb cb base fv a n cap w.heap.size w2.heap.size (w2.heap.size + 1) #[.int .u32 0, .int .u32 0, .int .u32 0] #[.int .u8 19, .int .i64 (rd : Nat), .int .i64 (ra : Nat), .int .i64 (rb : Nat), .int .u32 i12, .int .u32 i16] #[.int .u32 0, .int .u32 0, .int .u32 0] ((B).set (base + 16) ((pc + 1) % 4294967296))) := by
    rw [hw8]; exact HX6.out.set hb8 _ _
  clear hb8 hw8 HS HX6
  have d0 : v8.cell? ⟨w2.heap.size + 1, 0, none⟩ = some (#[.int .u32 0, .int .u32 0, .int .u32 0][0]) := HX8.out.ho.cell 0
  have d1 : v8.cell? ⟨w2.heap.size + 1, 1, none⟩ = some (#[.int .u32 0, .int .u32 0, .int .u32 0][1]) := HX8.out.ho.cell 1
  have d2 : v8.cell? ⟨w2.heap.size + 1, 2, none⟩ = some (#[.int .u32 0, .int .u32 0, .int .u32 0][2]) := HX8.out.ho.cell 2
  simp only [List.getElem_toArray, List.getElem_cons_succ, List.getElem_cons_zero] at d0 d1 d2
  obtain ⟨w9, hw9, hl9⟩ := HX8.out.hr.out
  have HFIN : Hid (Tn w (put w9 w.heap.size #[.int .u32 0, .int .u32 0, .int .u32 0] 49) cb ((B).set (base + 16) ((pc + 1) % 4294967296)).c) := by
    have := HX8.out.ret w.heap.size (Nat.le_refl _) #[.int .u32 0, .int .u32 0, .int .u32 0] 49
    rw [hw9, put_put] at this
    exact this
  clear HX8
  subst hw9
  go_wp2_with fail
  exact bodyPost_ret (v := .agg #[.int .u32 0, .int .u32 0, .int .u32 0]) (results_cell_row (by rfl) _ _ w.heap.size 49 _ (0, 0) _ (by rfl) (Blk.put_same hl9) Try.underlying49 rfl (by rw [size49]; rfl)) rfl ⟨by rw [hE.out]; rfl, by rw [hE.out]; show Tn w _ cb (B.set (base + 16) (if takF 19 (B.get (base + ra)) (B.get (base + rb)) = true then (pc + i12) % 4294967296 else (pc + 1) % 4294967296)).c; rw [HTK.out]; exact HFIN.out⟩
end Go.Proofs.Qxb6500749a
