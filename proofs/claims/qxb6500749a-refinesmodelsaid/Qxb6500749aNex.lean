import Derived.Test.Qxb6500749aAbs
import Derived.LoopN
namespace Go.Proofs.Qxb6500749a
open Go.RowKit
attribute [local go_sem] put_size put_cell_same put_cell_ne put_frozen_same put_frozen_ne put_setCell_same put_setCell_ne put_drew
attribute [local go_sem] drewN_setCell drewN_alloc drewN_put
/-! ### The request that is due -/
theorem size64 : (Try.prog.info? 64).map (·.size) = some 3 := by kernel_rfl
theorem results_row_tmp2 {P : Program} {fn : Func} {p t : Tmp} {ty : TypeId} (h : fn.results = #[.cell p ty, .tmp t]) (tmps : Array Value) (w : World) (g : Nat) (T : TypeId) (cs : Array Value) (fr : Nat × Nat) (d : TypeDesc) (b : Value)
    (hp : tmps.getD p undef = .pointer (some ⟨g, 0, none⟩)) (hg : w.heap[g]? = some (.cells cs T fr))
    (hu : P.underlying ty = some d) (hd : (match d with | .struct _ | .array _ _ => true | _ => false) = true) (hi : (P.info? ty).map (·.size) = some cs.size) (hb : tmps.getD t undef = b) :
    (results fn tmps).run P w = .ok (.tuple #[.agg cs, b]) w := by
  subst hb
  exact results_row_tmp h tmps w g T cs fr d hp hg hu hd hi
/-- What a call finds in the world: nothing old has turned. -/
structure NR (w w1 : World) (rb ab : Nat) (av : Array Value) : Prop where
  be : Below w.heap.size w w1
  hr : Blk w1 rb #[.bool false, .int .u32 0, .int .u32 0] 64
  ha : Blk w1 ab av 99
  lr : w.heap.size ≤ rb
  la : w.heap.size ≤ ab
theorem NR.below {w w1 w2 : World} {rb ab : Nat} {av : Array Value} (h : NR w w1 rb ab av) (k : Below w1.heap.size w1 w2) : NR w w2 rb ab av :=
  ⟨h.be.trans (k.mono h.be.size), (k.block _ h.hr.lt).trans h.hr, (k.block _ h.ha.lt).trans h.ha, h.lr, h.la⟩
theorem NR.drewN {w w1 : World} {rb ab : Nat} {av : Array Value} (h : NR w w1 rb ab av) (n : Nat) : NR w (w1.drewN n) rb ab av := h.below ⟨rfl, rfl, rfl, Nat.le_refl _, fun _ _ => rfl⟩
theorem NR.arr {w w1 : World} {rb ab : Nat} {av : Array Value} (h : NR w w1 rb ab av) (av' : Array Value) : NR w (put w1 ab av' 99) rb ab av' :=
  ⟨h.be.trans ⟨rfl, rfl, rfl, by rw [put_size]; exact Nat.le_refl _, fun k hk => put_heap_ne _ _ _ _ _ (by have := h.la; omega)⟩, h.hr.put_ne (h.hr.neT h.ha (by decide)), Blk.put_same h.ha.lt, h.lr, h.la⟩
theorem nr_start (w : World) : NR w ((w.alloc (.cells #[.bool false, .int .u32 0, .int .u32 0] 64)).alloc (.cells #[.int .u32 0, .int .u32 0, .int .u32 0, .int .u32 0] 99)) w.heap.size (w.heap.size + 1) #[.int .u32 0, .int .u32 0, .int .u32 0, .int .u32 0] := by
  refine ⟨((Below.refl _ _).alloc (Nat.le_refl _) _).alloc (by simp) _, (Below.heap_alloc _ _ _ (by simp)).trans (Blk.new w _ 64), ?_, Nat.le_refl _, by omega⟩
  have := Blk.new (w.alloc (.cells #[.bool false, .int .u32 0, .int .u32 0] 64)) #[.int .u32 0, .int .u32 0, .int .u32 0, .int .u32 0] 99
  rw [size_alloc'] at this
  exact this
set_option maxRecDepth 100000 in
set_option maxHeartbeats 4000000 in
theorem nex_f (db bb cb ub : Nat) (fv : Value) (st desc : Int) (fet : Nat) (hf : fet ≤ 4) (buf : Int) (wai : Bool) (B : BD) (w : World) (hd : Blk w db (dmaV bb ub ⟨st, 0, desc, fet, buf, wai⟩) 97) (hb : BR w bb cb fv B) :
    Calls Try.prog 72 #[.pointer (some ⟨db, 0, none⟩)] w fun e w' => e = .returned (.tuple #[.agg #[.bool false, .int .u32 ((desc + 4 * (fet : Nat)) % 4294967296), .int .u32 (0)], .bool true]) ∧ Blk w' db (dmaV bb ub ⟨st, 0, desc, fet, buf, wai⟩) 97 ∧ BR w' bb cb fv B ∧ Fr (fun k => k = db ∨ k = cb) w w' := by
  have H := hid_of hd
  have HB := hid_of hb
  have HBE : Hid (Below w.heap.size w (w.alloc (.cells #[.bool false, .int .u32 0, .int .u32 0] 64))) := (Below.refl _ _).alloc (Nat.le_refl _) _
  have HBN : Hid (Blk (w.alloc (.cells #[.bool false, .int .u32 0, .int .u32 0] 64)) w.heap.size #[.bool false, .int .u32 0, .int .u32 0] 64) := Blk.new _ _ _
  obtain ⟨W, hW⟩ : ∃ W, w.alloc (.cells #[.bool false, .int .u32 0, .int .u32 0] 64) = W := ⟨_, rfl⟩
  rw [hW] at HBE HBN
  have hdW : Blk W db (dmaV bb ub ⟨st, 0, desc, fet, buf, wai⟩) 97 := (HBE.out.block _ hd.lt).trans hd
  have c3 : W.cell? ⟨db, 3, none⟩ = some (.int .u8 0) := hdW.cell 3
  have c4 : W.cell? ⟨db, 4, none⟩ = some (.int .u32 desc) := hdW.cell 4
  have c5 : W.cell? ⟨db, 5, none⟩ = some (.int .i64 (fet : Nat)) := hdW.cell 5
  have HDW := hid_of hdW
  have hne : db ≠ w.heap.size := Nat.ne_of_lt hd.lt
  have hcv : ((fet : Nat) : Int) % 4294967296 = (fet : Nat) := by omega
  have HFIN : Hid (∀ V : World, Fr (fun k => k = db) w V → BR V bb cb fv B ∧ Fr (fun k => k = db ∨ k = cb) w V) := fun V f =>
    ⟨⟨HB.out.blk.fr f (HB.out.blk.neT H.out (by decide)), HB.out.cel.fr f (HB.out.cel.neT H.out (by decide)), HB.out.sl.fr f fun k hk => H.out.sl_ne (by decide) HB.out.sl k hk, HB.out.ok, HB.out.len, HB.out.now⟩, f.mono fun b _ e => .inl e⟩
  clear hd hb hdW hf
  go_enter Try.func72, Try.ntmps72
  go_upto_region 2 with fail
  clear hW
  refine wp_region_qtail 12 mixed (by kernel_rfl) ?_
  simp only [List.take_succ_cons, List.take_zero, List.drop_succ_cons, List.drop_zero]
  repeat (go_big_quiet_step (fail))
  refine wpQuiet_nil ?_
  obtain ⟨u2, hu2, hl2⟩ := HBN.out.out
  have HF2 : Hid (∀ rv : Array Value, Fr (fun k => k = db) w (put u2 w.heap.size rv 64).drew ∧ Blk (put u2 w.heap.size rv 64).drew db (dmaV bb ub ⟨st, 0, desc, fet, buf, wai⟩) 97) := fun rv => by
    have f2 := (Fr.of_below (K := fun k => k = db) HBE.out).put (b := w.heap.size) (fun q => absurd q (Nat.lt_irrefl _)) rv 64
    have h2 := HDW.out.put_ne (b := w.heap.size) (cs := rv) (T := 64) hne
    rw [hu2, put_put] at f2 h2
    exact ⟨f2.drew, h2⟩
  clear c3 c4 c5 HDW HBE HBN H HB
  subst hu2
  go_wp2_with fail
  have h9 := HF2.out #[.bool false, .int .u32 ((desc + 4 * (fet : Nat)) % 4294967296), .int .u32 0]
  refine ⟨rfl, _, results_row_tmp2 (fn := Try.f72) (p := 2) (t := 3) rfl _ _ w.heap.size 64 _ (0, 0) _ (.bool true) (by rfl) (Blk.put_same hl2) Try.underlying64 rfl (by rw [size64]; rfl) rfl, ?_⟩
  exact ⟨rfl, h9.2, HFIN.out _ h9.1⟩
set_option maxRecDepth 100000 in
set_option maxHeartbeats 4000000 in
theorem nex_c (db bb cb ub : Nat) (fv : Value) (st ph desc : Int) (fet : Nat) (buf : Int) (wai : Bool) (B : BD) (hB : B.Ok) (hph : ph = 1 ∨ ph = 2) (hc : (crcF (B.get 49) (B.get 50) (B.get 51) != B.get 52) = true) (w : World) (hd : Blk w db (dmaV bb ub ⟨st, ph, desc, fet, buf, wai⟩) 97) (hb : BR w bb cb fv B) :
    Calls Try.prog 72 #[.pointer (some ⟨db, 0, none⟩)] w fun e w' => e = .returned (.tuple #[.agg #[.bool false, .int .u32 (0), .int .u32 (0)], .bool false]) ∧ Blk w' db (dmaV bb ub ⟨3, ph, desc, fet, buf, wai⟩) 97 ∧ BR w' bb cb fv B ∧ Fr (fun k => k = db ∨ k = cb) w w' := by
  have H := hid_of hd
  have HB := hid_of hb
  have w0 := hB.get 49
  have w1 := hB.get 50
  have w2 := hB.get 51
  have w3 := hB.get 52
  have w4 := hB.get 53
  have HGET : Hid (∀ (site : Nat), site < 55 → ∀ V : World, Below w.heap.size w V → Calls Try.prog 58 #[.pointer (some ⟨bb, 0, none⟩), .int .i64 (site : Nat)] V fun e w' => e = .returned (.int .u32 (B.get site)) ∧ Below V.heap.size V w') := fun site hs V hV => get_any bb cb site hs fv B V (hb.below hV)
  have G0 := HGET.out 49 (by decide)
  have G1 := HGET.out 50 (by decide)
  have G2 := HGET.out 51 (by decide)
  have G3 := HGET.out 52 (by decide)
  have G4 := HGET.out 53 (by decide)
  have G5 := HGET.out 54 (by decide)
  have HFIN : Hid (∀ V : World, Fr (fun k => k = db) w V → BR V bb cb fv B ∧ Fr (fun k => k = db ∨ k = cb) w V) := fun V f =>
    ⟨⟨HB.out.blk.fr f (HB.out.blk.neT H.out (by decide)), HB.out.cel.fr f (HB.out.cel.neT H.out (by decide)), HB.out.sl.fr f fun k hk => H.out.sl_ne (by decide) HB.out.sl k hk, HB.out.ok, HB.out.len, HB.out.now⟩, f.mono fun b _ e => .inl e⟩
  clear HGET
  generalize B.get 49 = r0 at *
  generalize B.get 50 = r1 at *
  generalize B.get 51 = r2 at *
  generalize B.get 52 = r3 at *
  generalize B.get 53 = ix at *
  generalize B.get 54 = iy at *
  have HG0 := hid_of G0
  have HG1 := hid_of G1
  have HG2 := hid_of G2
  have HG3 := hid_of G3
  have HG4 := hid_of G4
  have HG5 := hid_of G5
  clear G0 G1 G2 G3 G4 G5
  have HW : Hid (W32 r0 ∧ W32 r1 ∧ W32 r2) := ⟨w0, w1, w2⟩
  obtain ⟨cr, hcr⟩ : ∃ cr, crcF r0 r1 r2 = cr := ⟨_, rfl⟩
  rw [hcr] at hc
  have HCR := hid_of hcr
  clear hcr
  obtain ⟨W, hW⟩ : ∃ W, (w.alloc (.cells #[.bool false, .int .u32 0, .int .u32 0] 64)).alloc (.cells #[.int .u32 0, .int .u32 0, .int .u32 0, .int .u32 0] 99) = W := ⟨_, rfl⟩
  have HN : Hid (NR w W w.heap.size (w.heap.size + 1) #[.int .u32 0, .int .u32 0, .int .u32 0, .int .u32 0]) := by rw [← hW]; exact nr_start w
  have c3w : w.cell? ⟨db, 3, none⟩ = some (.int .u8 ph) := hd.cell 3
  have c3 := ca1 w (.cells #[.bool false, .int .u32 0, .int .u32 0] 64) _ _ c3w
  have hph0 : (ph == 0) = false := by rcases hph with rfl | rfl <;> rfl
  clear hd hb c3w hB w0 w1 w2 w3 w4
  go_enter Try.func72, Try.ntmps72
  go_upto_region 4 with fail
  clear hW c3
  go_wp2_with fail
  refine wp_loop_rounds 5 ?_
  rw [rounds_succ]
  have hd0 : Blk W db (dmaV bb ub ⟨st, ph, desc, fet, buf, wai⟩) 97 := (HN.out.be.block _ H.out.lt).trans H.out
  have c0 : W.cell? ⟨db, 0, none⟩ = some (.pointer (some ⟨bb, 0, none⟩)) := hd0.cell 0
  have HC := hid_of (HG0.out W HN.out.be)
  clear hd0
  go_wp2_with fail
  refine HC.out.mono ?_
  rintro e v0 ⟨rfl, hv⟩
  have HM : Hid (NR w v0 w.heap.size (w.heap.size + 1) #[.int .u32 0, .int .u32 0, .int .u32 0, .int .u32 0]) := HN.out.below hv
  clear HC HN hv c0
  obtain ⟨u0, hu, hl⟩ := HM.out.ha.out
  have HN9 : Hid (NR w (put u0 (w.heap.size + 1) #[.int .u32 r0, .int .u32 0, .int .u32 0, .int .u32 0] 99) w.heap.size (w.heap.size + 1) #[.int .u32 r0, .int .u32 0, .int .u32 0, .int .u32 0]) := by
    have := HM.out.arr #[.int .u32 r0, .int .u32 0, .int .u32 0, .int .u32 0]
    rw [hu, put_put] at this
    exact this
  clear HM
  subst hu
  go_wp2_with fail
  obtain ⟨x1, hx9⟩ : ∃ x, put u0 (w.heap.size + 1) #[.int .u32 r0, .int .u32 0, .int .u32 0, .int .u32 0] 99 = x := ⟨_, rfl⟩
  rw [hx9] at HN9 ⊢
  have HN := HN9
  clear hx9 HN9 hl
  rw [rounds_succ]
  have hd1 : Blk x1 db (dmaV bb ub ⟨st, ph, desc, fet, buf, wai⟩) 97 := (HN.out.be.block _ H.out.lt).trans H.out
  have c0 : x1.cell? ⟨db, 0, none⟩ = some (.pointer (some ⟨bb, 0, none⟩)) := hd1.cell 0
  have HC := hid_of (HG1.out x1 HN.out.be)
  clear hd1
  go_wp2_with fail
  refine HC.out.mono ?_
  rintro e v1 ⟨rfl, hv⟩
  have HM : Hid (NR w v1 w.heap.size (w.heap.size + 1) #[.int .u32 r0, .int .u32 0, .int .u32 0, .int .u32 0]) := HN.out.below hv
  clear HC HN hv c0
  obtain ⟨u1, hu, hl⟩ := HM.out.ha.out
  have HN9 : Hid (NR w (put u1 (w.heap.size + 1) #[.int .u32 r0, .int .u32 r1, .int .u32 0, .int .u32 0] 99) w.heap.size (w.heap.size + 1) #[.int .u32 r0, .int .u32 r1, .int .u32 0, .int .u32 0]) := by
    have := HM.out.arr #[.int .u32 r0, .int .u32 r1, .int .u32 0, .int .u32 0]
    rw [hu, put_put] at this
    exact this
  clear HM
  subst hu
  go_wp2_with fail
  obtain ⟨x2, hx9⟩ : ∃ x, put u1 (w.heap.size + 1) #[.int .u32 r0, .int .u32 r1, .int .u32 0, .int .u32 0] 99 = x := ⟨_, rfl⟩
  rw [hx9] at HN9 ⊢
  have HN := HN9
  clear hx9 HN9 hl
  rw [rounds_succ]
  have hd2 : Blk x2 db (dmaV bb ub ⟨st, ph, desc, fet, buf, wai⟩) 97 := (HN.out.be.block _ H.out.lt).trans H.out
  have c0 : x2.cell? ⟨db, 0, none⟩ = some (.pointer (some ⟨bb, 0, none⟩)) := hd2.cell 0
  have HC := hid_of (HG2.out x2 HN.out.be)
  clear hd2
  go_wp2_with fail
  refine HC.out.mono ?_
  rintro e v2 ⟨rfl, hv⟩
  have HM : Hid (NR w v2 w.heap.size (w.heap.size + 1) #[.int .u32 r0, .int .u32 r1, .int .u32 0, .int .u32 0]) := HN.out.below hv
  clear HC HN hv c0
  obtain ⟨u2, hu, hl⟩ := HM.out.ha.out
  have HN9 : Hid (NR w (put u2 (w.heap.size + 1) #[.int .u32 r0, .int .u32 r1, .int .u32 r2, .int .u32 0] 99) w.heap.size (w.heap.size + 1) #[.int .u32 r0, .int .u32 r1, .int .u32 r2, .int .u32 0]) := by
    have := HM.out.arr #[.int .u32 r0, .int .u32 r1, .int .u32 r2, .int .u32 0]
    rw [hu, put_put] at this
    exact this
  clear HM
  subst hu
  go_wp2_with fail
  obtain ⟨x3, hx9⟩ : ∃ x, put u2 (w.heap.size + 1) #[.int .u32 r0, .int .u32 r1, .int .u32 r2, .int .u32 0] 99 = x := ⟨_, rfl⟩
  rw [hx9] at HN9 ⊢
  have HN := HN9
  clear hx9 HN9 hl
  rw [rounds_succ]
  have hd3 : Blk x3 db (dmaV bb ub ⟨st, ph, desc, fet, buf, wai⟩) 97 := (HN.out.be.block _ H.out.lt).trans H.out
  have c0 : x3.cell? ⟨db, 0, none⟩ = some (.pointer (some ⟨bb, 0, none⟩)) := hd3.cell 0
  have HC := hid_of (HG3.out x3 HN.out.be)
  clear hd3
  go_wp2_with fail
  refine HC.out.mono ?_
  rintro e v3 ⟨rfl, hv⟩
  have HM : Hid (NR w v3 w.heap.size (w.heap.size + 1) #[.int .u32 r0, .int .u32 r1, .int .u32 r2, .int .u32 0]) := HN.out.below hv
  clear HC HN hv c0
  obtain ⟨u3, hu, hl⟩ := HM.out.ha.out
  have HN9 : Hid (NR w (put u3 (w.heap.size + 1) #[.int .u32 r0, .int .u32 r1, .int .u32 r2, .int .u32 r3] 99) w.heap.size (w.heap.size + 1) #[.int .u32 r0, .int .u32 r1, .int .u32 r2, .int .u32 r3]) := by
    have := HM.out.arr #[.int .u32 r0, .int .u32 r1, .int .u32 r2, .int .u32 r3]
    rw [hu, put_put] at this
    exact this
  clear HM
  subst hu
  go_wp2_with fail
  obtain ⟨x4, hx9⟩ : ∃ x, put u3 (w.heap.size + 1) #[.int .u32 r0, .int .u32 r1, .int .u32 r2, .int .u32 r3] 99 = x := ⟨_, rfl⟩
  rw [hx9] at HN9 ⊢
  have HN := HN9
  clear hx9 HN9 hl
  rw [rounds_succ]
  go_upto_region 9 with fail
  have a0 : x4.cell? ⟨w.heap.size + 1, 0, none⟩ = some (.int .u32 r0) := HN.out.ha.cell 0
  have a1 : x4.cell? ⟨w.heap.size + 1, 1, none⟩ = some (.int .u32 r1) := HN.out.ha.cell 1
  have a2 : x4.cell? ⟨w.heap.size + 1, 2, none⟩ = some (.int .u32 r2) := HN.out.ha.cell 2
  have a3 : x4.cell? ⟨w.heap.size + 1, 3, none⟩ = some (.int .u32 r3) := HN.out.ha.cell 3
  go_quiet (fail)
  rename_i nq
  go_upto_region 10 with fail
  have HN5 : Hid (NR w (x4.drewN nq) w.heap.size (w.heap.size + 1) #[.int .u32 r0, .int .u32 r1, .int .u32 r2, .int .u32 r3]) := HN.out.drewN nq
  obtain ⟨x5, hx5⟩ : ∃ x5, x4.drewN nq = x5 := ⟨_, rfl⟩
  rw [hx5] at HN5 ⊢
  clear hx5 HN a0 a1 a2 a3
  have hd5 : Blk x5 db (dmaV bb ub ⟨st, ph, desc, fet, buf, wai⟩) 97 := (HN5.out.be.block _ H.out.lt).trans H.out
  have c0 : x5.cell? ⟨db, 0, none⟩ = some (.pointer (some ⟨bb, 0, none⟩)) := hd5.cell 0
  have HC := hid_of (HG4.out x5 HN5.out.be)
  clear hd5
  refine wp_region_list ?_
  go_wp2_with fail
  refine HC.out.mono ?_
  rintro e x6 ⟨rfl, hv⟩
  have HN6 : Hid (NR w x6 w.heap.size (w.heap.size + 1) #[.int .u32 r0, .int .u32 r1, .int .u32 r2, .int .u32 r3]) := HN5.out.below hv
  clear HC HN5 hv c0
  have HCC : Hid (Calls Try.prog 45 #[.slice (some ⟨w.heap.size + 1, 0, none⟩) 3 4] x6 fun e w' => e = .returned (.int .u32 cr) ∧ w' = x6) := by
    rw [← HCR.out]
    exact crc_any (w.heap.size + 1) 4 r0 r1 r2 HW.out.1 HW.out.2.1 HW.out.2.2 x6 (HN6.out.ha.cell 0) (HN6.out.ha.cell 1) (HN6.out.ha.cell 2)
  have HD6 : Hid (Blk x6 db (dmaV bb ub ⟨st, ph, desc, fet, buf, wai⟩) 97) := (HN6.out.be.block _ H.out.lt).trans H.out
  go_upto_region 12 with fail
  refine wp_region_list ?_
  go_wp2_with fail
  refine HCC.out.mono ?_
  rintro e x7 ⟨rfl, hx7⟩
  obtain rfl := hx7.symm
  clear HCC hx7
  obtain ⟨u8, hu8, hl8⟩ := HD6.out.out
  have HF8 : Hid (Fr (fun k => k = db) w (put u8 db (dmaV bb ub ⟨3, ph, desc, fet, buf, wai⟩) 97) ∧ Blk (put u8 db (dmaV bb ub ⟨3, ph, desc, fet, buf, wai⟩) 97) w.heap.size #[.bool false, .int .u32 0, .int .u32 0] 64) := by
    have f2 := (Fr.of_below (K := fun k => k = db) HN6.out.be).put (b := db) (fun _ => rfl) (dmaV bb ub ⟨3, ph, desc, fet, buf, wai⟩) 97
    have h2 := HN6.out.hr.put_ne (b := db) (cs := dmaV bb ub ⟨3, ph, desc, fet, buf, wai⟩) (T := 97) (HN6.out.hr.neT HD6.out (by decide))
    rw [hu8, put_put] at f2 h2
    exact ⟨f2, h2⟩
  have hu8' : x6 = put u8 db #[.pointer (some ⟨bb, 0, none⟩), .pointer (some ⟨ub, 0, none⟩), .int .u8 st, .int .u8 ph, .int .u32 desc, .int .i64 ((fet : Nat) : Int), .int .u32 buf, .bool wai] 97 := hu8
  have hnr : w.heap.size ≠ db := HN6.out.hr.neT HD6.out (by decide)
  have HLD : Hid (db < w.heap.size) := H.out.lt
  clear HN6 HD6 hu8 HG0 HG1 HG2 HG3 HG4 HG5 H
  subst hu8'
  go_upto_region 20 with fail
  have HD8 : Hid (Blk (put u8 db #[.pointer (some ⟨bb, 0, none⟩), .pointer (some ⟨ub, 0, none⟩), .int .u8 3, .int .u8 ph, .int .u32 desc, .int .i64 ((fet : Nat) : Int), .int .u32 buf, .bool wai] 97) db (dmaV bb ub ⟨3, ph, desc, fet, buf, wai⟩) 97) := Blk.put_same hl8
  obtain ⟨x9, hx9⟩ : ∃ x9, put u8 db #[.pointer (some ⟨bb, 0, none⟩), .pointer (some ⟨ub, 0, none⟩), .int .u8 3, .int .u8 ph, .int .u32 desc, .int .i64 ((fet : Nat) : Int), .int .u32 buf, .bool wai] 97 = x9 := ⟨_, rfl⟩
  have HF9 : Hid (Fr (fun k => k = db) w x9 ∧ Blk x9 w.heap.size #[.bool false, .int .u32 0, .int .u32 0] 64) := by rw [← hx9]; exact HF8.out
  rw [hx9] at HD8 ⊢
  clear hx9 HF8 hl8
  obtain ⟨u9, hu9, hl9⟩ := HF9.out.2.out
  rw [hu9]
  go_wp2_with fail
  rw [← hu9]
  refine ⟨rfl, _, results_row_tmp2 (fn := Try.f72) (p := 2) (t := 3) rfl _ _ w.heap.size 64 _ (0, 0) _ (.bool false) (by rfl) HF9.out.2 Try.underlying64 rfl (by rw [size64]; rfl) rfl, ?_⟩
  exact ⟨rfl, HD8.out, HFIN.out _ HF9.out.1⟩
set_option maxRecDepth 100000 in
set_option maxHeartbeats 4000000 in
theorem nex_k (db bb cb ub : Nat) (fv : Value) (st ph desc : Int) (fet : Nat) (buf : Int) (wai : Bool) (B : BD) (hB : B.Ok) (hph : ph = 1 ∨ ph = 2) (hc : (crcF (B.get 49) (B.get 50) (B.get 51) != B.get 52) = false) (hk : B.get 51 > 16) (w : World) (hd : Blk w db (dmaV bb ub ⟨st, ph, desc, fet, buf, wai⟩) 97) (hb : BR w bb cb fv B) :
    Calls Try.prog 72 #[.pointer (some ⟨db, 0, none⟩)] w fun e w' => e = .returned (.tuple #[.agg #[.bool false, .int .u32 (0), .int .u32 (0)], .bool false]) ∧ Blk w' db (dmaV bb ub ⟨3, ph, desc, fet, buf, wai⟩) 97 ∧ BR w' bb cb fv B ∧ Fr (fun k => k = db ∨ k = cb) w w' := by
  have H := hid_of hd
  have HB := hid_of hb
  have w0 := hB.get 49
  have w1 := hB.get 50
  have w2 := hB.get 51
  have w3 := hB.get 52
  have w4 := hB.get 53
  have HGET : Hid (∀ (site : Nat), site < 55 → ∀ V : World, Below w.heap.size w V → Calls Try.prog 58 #[.pointer (some ⟨bb, 0, none⟩), .int .i64 (site : Nat)] V fun e w' => e = .returned (.int .u32 (B.get site)) ∧ Below V.heap.size V w') := fun site hs V hV => get_any bb cb site hs fv B V (hb.below hV)
  have G0 := HGET.out 49 (by decide)
  have G1 := HGET.out 50 (by decide)
  have G2 := HGET.out 51 (by decide)
  have G3 := HGET.out 52 (by decide)
  have G4 := HGET.out 53 (by decide)
  have G5 := HGET.out 54 (by decide)
  have HFIN : Hid (∀ V : World, Fr (fun k => k = db) w V → BR V bb cb fv B ∧ Fr (fun k => k = db ∨ k = cb) w V) := fun V f =>
    ⟨⟨HB.out.blk.fr f (HB.out.blk.neT H.out (by decide)), HB.out.cel.fr f (HB.out.cel.neT H.out (by decide)), HB.out.sl.fr f fun k hk => H.out.sl_ne (by decide) HB.out.sl k hk, HB.out.ok, HB.out.len, HB.out.now⟩, f.mono fun b _ e => .inl e⟩
  clear HGET
  generalize B.get 49 = r0 at *
  generalize B.get 50 = r1 at *
  generalize B.get 51 = r2 at *
  generalize B.get 52 = r3 at *
  generalize B.get 53 = ix at *
  generalize B.get 54 = iy at *
  have HG0 := hid_of G0
  have HG1 := hid_of G1
  have HG2 := hid_of G2
  have HG3 := hid_of G3
  have HG4 := hid_of G4
  have HG5 := hid_of G5
  clear G0 G1 G2 G3 G4 G5
  have HW : Hid (W32 r0 ∧ W32 r1 ∧ W32 r2) := ⟨w0, w1, w2⟩
  obtain ⟨cr, hcr⟩ : ∃ cr, crcF r0 r1 r2 = cr := ⟨_, rfl⟩
  rw [hcr] at hc
  have HCR := hid_of hcr
  clear hcr
  obtain ⟨W, hW⟩ : ∃ W, (w.alloc (.cells #[.bool false, .int .u32 0, .int .u32 0] 64)).alloc (.cells #[.int .u32 0, .int .u32 0, .int .u32 0, .int .u32 0] 99) = W := ⟨_, rfl⟩
  have HN : Hid (NR w W w.heap.size (w.heap.size + 1) #[.int .u32 0, .int .u32 0, .int .u32 0, .int .u32 0]) := by rw [← hW]; exact nr_start w
  have c3w : w.cell? ⟨db, 3, none⟩ = some (.int .u8 ph) := hd.cell 3
  have c3 := ca1 w (.cells #[.bool false, .int .u32 0, .int .u32 0] 64) _ _ c3w
  have hph0 : (ph == 0) = false := by rcases hph with rfl | rfl <;> rfl
  clear hd hb c3w hB w0 w1 w2 w3 w4
  go_enter Try.func72, Try.ntmps72
  go_upto_region 4 with fail
  clear hW c3
  go_wp2_with fail
  refine wp_loop_rounds 5 ?_
  rw [rounds_succ]
  have hd0 : Blk W db (dmaV bb ub ⟨st, ph, desc, fet, buf, wai⟩) 97 := (HN.out.be.block _ H.out.lt).trans H.out
  have c0 : W.cell? ⟨db, 0, none⟩ = some (.pointer (some ⟨bb, 0, none⟩)) := hd0.cell 0
  have HC := hid_of (HG0.out W HN.out.be)
  clear hd0
  go_wp2_with fail
  refine HC.out.mono ?_
  rintro e v0 ⟨rfl, hv⟩
  have HM : Hid (NR w v0 w.heap.size (w.heap.size + 1) #[.int .u32 0, .int .u32 0, .int .u32 0, .int .u32 0]) := HN.out.below hv
  clear HC HN hv c0
  obtain ⟨u0, hu, hl⟩ := HM.out.ha.out
  have HN9 : Hid (NR w (put u0 (w.heap.size + 1) #[.int .u32 r0, .int .u32 0, .int .u32 0, .int .u32 0] 99) w.heap.size (w.heap.size + 1) #[.int .u32 r0, .int .u32 0, .int .u32 0, .int .u32 0]) := by
    have := HM.out.arr #[.int .u32 r0, .int .u32 0, .int .u32 0, .int .u32 0]
    rw [hu, put_put] at this
    exact this
  clear HM
  subst hu
  go_wp2_with fail
  obtain ⟨x1, hx9⟩ : ∃ x, put u0 (w.heap.size + 1) #[.int .u32 r0, .int .u32 0, .int .u32 0, .int .u32 0] 99 = x := ⟨_, rfl⟩
  rw [hx9] at HN9 ⊢
  have HN := HN9
  clear hx9 HN9 hl
  rw [rounds_succ]
  have hd1 : Blk x1 db (dmaV bb ub ⟨st, ph, desc, fet, buf, wai⟩) 97 := (HN.out.be.block _ H.out.lt).trans H.out
  have c0 : x1.cell? ⟨db, 0, none⟩ = some (.pointer (some ⟨bb, 0, none⟩)) := hd1.cell 0
  have HC := hid_of (HG1.out x1 HN.out.be)
  clear hd1
  go_wp2_with fail
  refine HC.out.mono ?_
  rintro e v1 ⟨rfl, hv⟩
  have HM : Hid (NR w v1 w.heap.size (w.heap.size + 1) #[.int .u32 r0, .int .u32 0, .int .u32 0, .int .u32 0]) := HN.out.below hv
  clear HC HN hv c0
  obtain ⟨u1, hu, hl⟩ := HM.out.ha.out
  have HN9 : Hid (NR w (put u1 (w.heap.size + 1) #[.int .u32 r0, .int .u32 r1, .int .u32 0, .int .u32 0] 99) w.heap.size (w.heap.size + 1) #[.int .u32 r0, .int .u32 r1, .int .u32 0, .int .u32 0]) := by
    have := HM.out.arr #[.int .u32 r0, .int .u32 r1, .int .u32 0, .int .u32 0]
    rw [hu, put_put] at this
    exact this
  clear HM
  subst hu
  go_wp2_with fail
  obtain ⟨x2, hx9⟩ : ∃ x, put u1 (w.heap.size + 1) #[.int .u32 r0, .int .u32 r1, .int .u32 0, .int .u32 0] 99 = x := ⟨_, rfl⟩
  rw [hx9] at HN9 ⊢
  have HN := HN9
  clear hx9 HN9 hl
  rw [rounds_succ]
  have hd2 : Blk x2 db (dmaV bb ub ⟨st, ph, desc, fet, buf, wai⟩) 97 := (HN.out.be.block _ H.out.lt).trans H.out
  have c0 : x2.cell? ⟨db, 0, none⟩ = some (.pointer (some ⟨bb, 0, none⟩)) := hd2.cell 0
  have HC := hid_of (HG2.out x2 HN.out.be)
  clear hd2
  go_wp2_with fail
  refine HC.out.mono ?_
  rintro e v2 ⟨rfl, hv⟩
  have HM : Hid (NR w v2 w.heap.size (w.heap.size + 1) #[.int .u32 r0, .int .u32 r1, .int .u32 0, .int .u32 0]) := HN.out.below hv
  clear HC HN hv c0
  obtain ⟨u2, hu, hl⟩ := HM.out.ha.out
  have HN9 : Hid (NR w (put u2 (w.heap.size + 1) #[.int .u32 r0, .int .u32 r1, .int .u32 r2, .int .u32 0] 99) w.heap.size (w.heap.size + 1) #[.int .u32 r0, .int .u32 r1, .int .u32 r2, .int .u32 0]) := by
    have := HM.out.arr #[.int .u32 r0, .int .u32 r1, .int .u32 r2, .int .u32 0]
    rw [hu, put_put] at this
    exact this
  clear HM
  subst hu
  go_wp2_with fail
  obtain ⟨x3, hx9⟩ : ∃ x, put u2 (w.heap.size + 1) #[.int .u32 r0, .int .u32 r1, .int .u32 r2, .int .u32 0] 99 = x := ⟨_, rfl⟩
  rw [hx9] at HN9 ⊢
  have HN := HN9
  clear hx9 HN9 hl
  rw [rounds_succ]
  have hd3 : Blk x3 db (dmaV bb ub ⟨st, ph, desc, fet, buf, wai⟩) 97 := (HN.out.be.block _ H.out.lt).trans H.out
  have c0 : x3.cell? ⟨db, 0, none⟩ = some (.pointer (some ⟨bb, 0, none⟩)) := hd3.cell 0
  have HC := hid_of (HG3.out x3 HN.out.be)
  clear hd3
  go_wp2_with fail
  refine HC.out.mono ?_
  rintro e v3 ⟨rfl, hv⟩
  have HM : Hid (NR w v3 w.heap.size (w.heap.size + 1) #[.int .u32 r0, .int .u32 r1, .int .u32 r2, .int .u32 0]) := HN.out.below hv
  clear HC HN hv c0
  obtain ⟨u3, hu, hl⟩ := HM.out.ha.out
  have HN9 : Hid (NR w (put u3 (w.heap.size + 1) #[.int .u32 r0, .int .u32 r1, .int .u32 r2, .int .u32 r3] 99) w.heap.size (w.heap.size + 1) #[.int .u32 r0, .int .u32 r1, .int .u32 r2, .int .u32 r3]) := by
    have := HM.out.arr #[.int .u32 r0, .int .u32 r1, .int .u32 r2, .int .u32 r3]
    rw [hu, put_put] at this
    exact this
  clear HM
  subst hu
  go_wp2_with fail
  obtain ⟨x4, hx9⟩ : ∃ x, put u3 (w.heap.size + 1) #[.int .u32 r0, .int .u32 r1, .int .u32 r2, .int .u32 r3] 99 = x := ⟨_, rfl⟩
  rw [hx9] at HN9 ⊢
  have HN := HN9
  clear hx9 HN9 hl
  rw [rounds_succ]
  go_upto_region 9 with fail
  have a0 : x4.cell? ⟨w.heap.size + 1, 0, none⟩ = some (.int .u32 r0) := HN.out.ha.cell 0
  have a1 : x4.cell? ⟨w.heap.size + 1, 1, none⟩ = some (.int .u32 r1) := HN.out.ha.cell 1
  have a2 : x4.cell? ⟨w.heap.size + 1, 2, none⟩ = some (.int .u32 r2) := HN.out.ha.cell 2
  have a3 : x4.cell? ⟨w.heap.size + 1, 3, none⟩ = some (.int .u32 r3) := HN.out.ha.cell 3
  go_quiet (fail)
  rename_i nq
  go_upto_region 10 with fail
  have HN5 : Hid (NR w (x4.drewN nq) w.heap.size (w.heap.size + 1) #[.int .u32 r0, .int .u32 r1, .int .u32 r2, .int .u32 r3]) := HN.out.drewN nq
  obtain ⟨x5, hx5⟩ : ∃ x5, x4.drewN nq = x5 := ⟨_, rfl⟩
  rw [hx5] at HN5 ⊢
  clear hx5 HN a0 a1 a2 a3
  have hd5 : Blk x5 db (dmaV bb ub ⟨st, ph, desc, fet, buf, wai⟩) 97 := (HN5.out.be.block _ H.out.lt).trans H.out
  have c0 : x5.cell? ⟨db, 0, none⟩ = some (.pointer (some ⟨bb, 0, none⟩)) := hd5.cell 0
  have HC := hid_of (HG4.out x5 HN5.out.be)
  clear hd5
  refine wp_region_list ?_
  go_wp2_with fail
  refine HC.out.mono ?_
  rintro e x6 ⟨rfl, hv⟩
  have HN6 : Hid (NR w x6 w.heap.size (w.heap.size + 1) #[.int .u32 r0, .int .u32 r1, .int .u32 r2, .int .u32 r3]) := HN5.out.below hv
  clear HC HN5 hv c0
  have HCC : Hid (Calls Try.prog 45 #[.slice (some ⟨w.heap.size + 1, 0, none⟩) 3 4] x6 fun e w' => e = .returned (.int .u32 cr) ∧ w' = x6) := by
    rw [← HCR.out]
    exact crc_any (w.heap.size + 1) 4 r0 r1 r2 HW.out.1 HW.out.2.1 HW.out.2.2 x6 (HN6.out.ha.cell 0) (HN6.out.ha.cell 1) (HN6.out.ha.cell 2)
  have HD6 : Hid (Blk x6 db (dmaV bb ub ⟨st, ph, desc, fet, buf, wai⟩) 97) := (HN6.out.be.block _ H.out.lt).trans H.out
  go_upto_region 12 with fail
  refine wp_region_list ?_
  go_wp2_with fail
  refine HCC.out.mono ?_
  rintro e x7 ⟨rfl, hx7⟩
  obtain rfl := hx7.symm
  clear HCC hx7
  obtain ⟨u8, hu8, hl8⟩ := HD6.out.out
  have HF8 : Hid (Fr (fun k => k = db) w (put u8 db (dmaV bb ub ⟨3, ph, desc, fet, buf, wai⟩) 97) ∧ Blk (put u8 db (dmaV bb ub ⟨3, ph, desc, fet, buf, wai⟩) 97) w.heap.size #[.bool false, .int .u32 0, .int .u32 0] 64) := by
    have f2 := (Fr.of_below (K := fun k => k = db) HN6.out.be).put (b := db) (fun _ => rfl) (dmaV bb ub ⟨3, ph, desc, fet, buf, wai⟩) 97
    have h2 := HN6.out.hr.put_ne (b := db) (cs := dmaV bb ub ⟨3, ph, desc, fet, buf, wai⟩) (T := 97) (HN6.out.hr.neT HD6.out (by decide))
    rw [hu8, put_put] at f2 h2
    exact ⟨f2, h2⟩
  have hu8' : x6 = put u8 db #[.pointer (some ⟨bb, 0, none⟩), .pointer (some ⟨ub, 0, none⟩), .int .u8 st, .int .u8 ph, .int .u32 desc, .int .i64 ((fet : Nat) : Int), .int .u32 buf, .bool wai] 97 := hu8
  have hnr : w.heap.size ≠ db := HN6.out.hr.neT HD6.out (by decide)
  have HLD : Hid (db < w.heap.size) := H.out.lt
  clear HN6 HD6 hu8 HG0 HG1 HG2 HG3 HG4 HG5 H
  subst hu8'
  go_upto_region 20 with fail
  have HD8 : Hid (Blk (put u8 db #[.pointer (some ⟨bb, 0, none⟩), .pointer (some ⟨ub, 0, none⟩), .int .u8 3, .int .u8 ph, .int .u32 desc, .int .i64 ((fet : Nat) : Int), .int .u32 buf, .bool wai] 97) db (dmaV bb ub ⟨3, ph, desc, fet, buf, wai⟩) 97) := Blk.put_same hl8
  obtain ⟨x9, hx9⟩ : ∃ x9, put u8 db #[.pointer (some ⟨bb, 0, none⟩), .pointer (some ⟨ub, 0, none⟩), .int .u8 3, .int .u8 ph, .int .u32 desc, .int .i64 ((fet : Nat) : Int), .int .u32 buf, .bool wai] 97 = x9 := ⟨_, rfl⟩
  have HF9 : Hid (Fr (fun k => k = db) w x9 ∧ Blk x9 w.heap.size #[.bool false, .int .u32 0, .int .u32 0] 64) := by rw [← hx9]; exact HF8.out
  rw [hx9] at HD8 ⊢
  clear hx9 HF8 hl8
  obtain ⟨u9, hu9, hl9⟩ := HF9.out.2.out
  rw [hu9]
  go_wp2_with fail
  rw [← hu9]
  refine ⟨rfl, _, results_row_tmp2 (fn := Try.f72) (p := 2) (t := 3) rfl _ _ w.heap.size 64 _ (0, 0) _ (.bool false) (by rfl) HF9.out.2 Try.underlying64 rfl (by rw [size64]; rfl) rfl, ?_⟩
  exact ⟨rfl, HD8.out, HFIN.out _ HF9.out.1⟩
set_option maxRecDepth 100000 in
set_option maxHeartbeats 4000000 in
theorem nex_i (db bb cb ub : Nat) (fv : Value) (st ph desc : Int) (fet : Nat) (buf : Int) (wai : Bool) (B : BD) (hB : B.Ok) (hph : ph = 1 ∨ ph = 2) (hc : (crcF (B.get 49) (B.get 50) (B.get 51) != B.get 52) = false) (hk : ¬ B.get 51 > 16) (hi : (B.get 53 != B.get 54) = true) (w : World) (hd : Blk w db (dmaV bb ub ⟨st, ph, desc, fet, buf, wai⟩) 97) (hb : BR w bb cb fv B) :
    Calls Try.prog 72 #[.pointer (some ⟨db, 0, none⟩)] w fun e w' => e = .returned (.tuple #[.agg #[.bool false, .int .u32 (0), .int .u32 (0)], .bool false]) ∧ Blk w' db (dmaV bb ub ⟨5, ph, desc, fet, buf, wai⟩) 97 ∧ BR w' bb cb fv B ∧ Fr (fun k => k = db ∨ k = cb) w w' := by
  have H := hid_of hd
  have HB := hid_of hb
  have w0 := hB.get 49
  have w1 := hB.get 50
  have w2 := hB.get 51
  have w3 := hB.get 52
  have w4 := hB.get 53
  have HGET : Hid (∀ (site : Nat), site < 55 → ∀ V : World, Below w.heap.size w V → Calls Try.prog 58 #[.pointer (some ⟨bb, 0, none⟩), .int .i64 (site : Nat)] V fun e w' => e = .returned (.int .u32 (B.get site)) ∧ Below V.heap.size V w') := fun site hs V hV => get_any bb cb site hs fv B V (hb.below hV)
  have G0 := HGET.out 49 (by decide)
  have G1 := HGET.out 50 (by decide)
  have G2 := HGET.out 51 (by decide)
  have G3 := HGET.out 52 (by decide)
  have G4 := HGET.out 53 (by decide)
  have G5 := HGET.out 54 (by decide)
  have HFIN : Hid (∀ V : World, Fr (fun k => k = db) w V → BR V bb cb fv B ∧ Fr (fun k => k = db ∨ k = cb) w V) := fun V f =>
    ⟨⟨HB.out.blk.fr f (HB.out.blk.neT H.out (by decide)), HB.out.cel.fr f (HB.out.cel.neT H.out (by decide)), HB.out.sl.fr f fun k hk => H.out.sl_ne (by decide) HB.out.sl k hk, HB.out.ok, HB.out.len, HB.out.now⟩, f.mono fun b _ e => .inl e⟩
  clear HGET
  generalize B.get 49 = r0 at *
  generalize B.get 50 = r1 at *
  generalize B.get 51 = r2 at *
  generalize B.get 52 = r3 at *
  generalize B.get 53 = ix at *
  generalize B.get 54 = iy at *
  have HG0 := hid_of G0
  have HG1 := hid_of G1
  have HG2 := hid_of G2
  have HG3 := hid_of G3
  have HG4 := hid_of G4
  have HG5 := hid_of G5
  clear G0 G1 G2 G3 G4 G5
  have HW : Hid (W32 r0 ∧ W32 r1 ∧ W32 r2) := ⟨w0, w1, w2⟩
  obtain ⟨cr, hcr⟩ : ∃ cr, crcF r0 r1 r2 = cr := ⟨_, rfl⟩
  rw [hcr] at hc
  have HCR := hid_of hcr
  clear hcr
  obtain ⟨W, hW⟩ : ∃ W, (w.alloc (.cells #[.bool false, .int .u32 0, .int .u32 0] 64)).alloc (.cells #[.int .u32 0, .int .u32 0, .int .u32 0, .int .u32 0] 99) = W := ⟨_, rfl⟩
  have HN : Hid (NR w W w.heap.size (w.heap.size + 1) #[.int .u32 0, .int .u32 0, .int .u32 0, .int .u32 0]) := by rw [← hW]; exact nr_start w
  have c3w : w.cell? ⟨db, 3, none⟩ = some (.int .u8 ph) := hd.cell 3
  have c3 := ca1 w (.cells #[.bool false, .int .u32 0, .int .u32 0] 64) _ _ c3w
  have hph0 : (ph == 0) = false := by rcases hph with rfl | rfl <;> rfl
  clear hd hb c3w hB w0 w1 w2 w3 w4
  go_enter Try.func72, Try.ntmps72
  go_upto_region 4 with fail
  clear hW c3
  go_wp2_with fail
  refine wp_loop_rounds 5 ?_
  rw [rounds_succ]
  have hd0 : Blk W db (dmaV bb ub ⟨st, ph, desc, fet, buf, wai⟩) 97 := (HN.out.be.block _ H.out.lt).trans H.out
  have c0 : W.cell? ⟨db, 0, none⟩ = some (.pointer (some ⟨bb, 0, none⟩)) := hd0.cell 0
  have HC := hid_of (HG0.out W HN.out.be)
  clear hd0
  go_wp2_with fail
  refine HC.out.mono ?_
  rintro e v0 ⟨rfl, hv⟩
  have HM : Hid (NR w v0 w.heap.size (w.heap.size + 1) #[.int .u32 0, .int .u32 0, .int .u32 0, .int .u32 0]) := HN.out.below hv
  clear HC HN hv c0
  obtain ⟨u0, hu, hl⟩ := HM.out.ha.out
  have HN9 : Hid (NR w (put u0 (w.heap.size + 1) #[.int .u32 r0, .int .u32 0, .int .u32 0, .int .u32 0] 99) w.heap.size (w.heap.size + 1) #[.int .u32 r0, .int .u32 0, .int .u32 0, .int .u32 0]) := by
    have := HM.out.arr #[.int .u32 r0, .int .u32 0, .int .u32 0, .int .u32 0]
    rw [hu, put_put] at this
    exact this
  clear HM
  subst hu
  go_wp2_with fail
  obtain ⟨x1, hx9⟩ : ∃ x, put u0 (w.heap.size + 1) #[.int .u32 r0, .int .u32 0, .int .u32 0, .int .u32 0] 99 = x := ⟨_, rfl⟩
  rw [hx9] at HN9 ⊢
  have HN := HN9
  clear hx9 HN9 hl
  rw [rounds_succ]
  have hd1 : Blk x1 db (dmaV bb ub ⟨st, ph, desc, fet, buf, wai⟩) 97 := (HN.out.be.block _ H.out.lt).trans H.out
  have c0 : x1.cell? ⟨db, 0, none⟩ = some (.pointer (some ⟨bb, 0, none⟩)) := hd1.cell 0
  have HC := hid_of (HG1.out x1 HN.out.be)
  clear hd1
  go_wp2_with fail
  refine HC.out.mono ?_
  rintro e v1 ⟨rfl, hv⟩
  have HM : Hid (NR w v1 w.heap.size (w.heap.size + 1) #[.int .u32 r0, .int .u32 0, .int .u32 0, .int .u32 0]) := HN.out.below hv
  clear HC HN hv c0
  obtain ⟨u1, hu, hl⟩ := HM.out.ha.out
  have HN9 : Hid (NR w (put u1 (w.heap.size + 1) #[.int .u32 r0, .int .u32 r1, .int .u32 0, .int .u32 0] 99) w.heap.size (w.heap.size + 1) #[.int .u32 r0, .int .u32 r1, .int .u32 0, .int .u32 0]) := by
    have := HM.out.arr #[.int .u32 r0, .int .u32 r1, .int .u32 0, .int .u32 0]
    rw [hu, put_put] at this
    exact this
  clear HM
  subst hu
  go_wp2_with fail
  obtain ⟨x2, hx9⟩ : ∃ x, put u1 (w.heap.size + 1) #[.int .u32 r0, .int .u32 r1, .int .u32 0, .int .u32 0] 99 = x := ⟨_, rfl⟩
  rw [hx9] at HN9 ⊢
  have HN := HN9
  clear hx9 HN9 hl
  rw [rounds_succ]
  have hd2 : Blk x2 db (dmaV bb ub ⟨st, ph, desc, fet, buf, wai⟩) 97 := (HN.out.be.block _ H.out.lt).trans H.out
  have c0 : x2.cell? ⟨db, 0, none⟩ = some (.pointer (some ⟨bb, 0, none⟩)) := hd2.cell 0
  have HC := hid_of (HG2.out x2 HN.out.be)
  clear hd2
  go_wp2_with fail
  refine HC.out.mono ?_
  rintro e v2 ⟨rfl, hv⟩
  have HM : Hid (NR w v2 w.heap.size (w.heap.size + 1) #[.int .u32 r0, .int .u32 r1, .int .u32 0, .int .u32 0]) := HN.out.below hv
  clear HC HN hv c0
  obtain ⟨u2, hu, hl⟩ := HM.out.ha.out
  have HN9 : Hid (NR w (put u2 (w.heap.size + 1) #[.int .u32 r0, .int .u32 r1, .int .u32 r2, .int .u32 0] 99) w.heap.size (w.heap.size + 1) #[.int .u32 r0, .int .u32 r1, .int .u32 r2, .int .u32 0]) := by
    have := HM.out.arr #[.int .u32 r0, .int .u32 r1, .int .u32 r2, .int .u32 0]
    rw [hu, put_put] at this
    exact this
  clear HM
  subst hu
  go_wp2_with fail
  obtain ⟨x3, hx9⟩ : ∃ x, put u2 (w.heap.size + 1) #[.int .u32 r0, .int .u32 r1, .int .u32 r2, .int .u32 0] 99 = x := ⟨_, rfl⟩
  rw [hx9] at HN9 ⊢
  have HN := HN9
  clear hx9 HN9 hl
  rw [rounds_succ]
  have hd3 : Blk x3 db (dmaV bb ub ⟨st, ph, desc, fet, buf, wai⟩) 97 := (HN.out.be.block _ H.out.lt).trans H.out
  have c0 : x3.cell? ⟨db, 0, none⟩ = some (.pointer (some ⟨bb, 0, none⟩)) := hd3.cell 0
  have HC := hid_of (HG3.out x3 HN.out.be)
  clear hd3
  go_wp2_with fail
  refine HC.out.mono ?_
  rintro e v3 ⟨rfl, hv⟩
  have HM : Hid (NR w v3 w.heap.size (w.heap.size + 1) #[.int .u32 r0, .int .u32 r1, .int .u32 r2, .int .u32 0]) := HN.out.below hv
  clear HC HN hv c0
  obtain ⟨u3, hu, hl⟩ := HM.out.ha.out
  have HN9 : Hid (NR w (put u3 (w.heap.size + 1) #[.int .u32 r0, .int .u32 r1, .int .u32 r2, .int .u32 r3] 99) w.heap.size (w.heap.size + 1) #[.int .u32 r0, .int .u32 r1, .int .u32 r2, .int .u32 r3]) := by
    have := HM.out.arr #[.int .u32 r0, .int .u32 r1, .int .u32 r2, .int .u32 r3]
    rw [hu, put_put] at this
    exact this
  clear HM
  subst hu
  go_wp2_with fail
  obtain ⟨x4, hx9⟩ : ∃ x, put u3 (w.heap.size + 1) #[.int .u32 r0, .int .u32 r1, .int .u32 r2, .int .u32 r3] 99 = x := ⟨_, rfl⟩
  rw [hx9] at HN9 ⊢
  have HN := HN9
  clear hx9 HN9 hl
  rw [rounds_succ]
  go_upto_region 9 with fail
  have a0 : x4.cell? ⟨w.heap.size + 1, 0, none⟩ = some (.int .u32 r0) := HN.out.ha.cell 0
  have a1 : x4.cell? ⟨w.heap.size + 1, 1, none⟩ = some (.int .u32 r1) := HN.out.ha.cell 1
  have a2 : x4.cell? ⟨w.heap.size + 1, 2, none⟩ = some (.int .u32 r2) := HN.out.ha.cell 2
  have a3 : x4.cell? ⟨w.heap.size + 1, 3, none⟩ = some (.int .u32 r3) := HN.out.ha.cell 3
  go_quiet (fail)
  rename_i nq
  go_upto_region 10 with fail
  have HN5 : Hid (NR w (x4.drewN nq) w.heap.size (w.heap.size + 1) #[.int .u32 r0, .int .u32 r1, .int .u32 r2, .int .u32 r3]) := HN.out.drewN nq
  obtain ⟨x5, hx5⟩ : ∃ x5, x4.drewN nq = x5 := ⟨_, rfl⟩
  rw [hx5] at HN5 ⊢
  clear hx5 HN a0 a1 a2 a3
  have hd5 : Blk x5 db (dmaV bb ub ⟨st, ph, desc, fet, buf, wai⟩) 97 := (HN5.out.be.block _ H.out.lt).trans H.out
  have c0 : x5.cell? ⟨db, 0, none⟩ = some (.pointer (some ⟨bb, 0, none⟩)) := hd5.cell 0
  have HC := hid_of (HG4.out x5 HN5.out.be)
  clear hd5
  refine wp_region_list ?_
  go_wp2_with fail
  refine HC.out.mono ?_
  rintro e x6 ⟨rfl, hv⟩
  have HN6 : Hid (NR w x6 w.heap.size (w.heap.size + 1) #[.int .u32 r0, .int .u32 r1, .int .u32 r2, .int .u32 r3]) := HN5.out.below hv
  clear HC HN5 hv c0
  have HCC : Hid (Calls Try.prog 45 #[.slice (some ⟨w.heap.size + 1, 0, none⟩) 3 4] x6 fun e w' => e = .returned (.int .u32 cr) ∧ w' = x6) := by
    rw [← HCR.out]
    exact crc_any (w.heap.size + 1) 4 r0 r1 r2 HW.out.1 HW.out.2.1 HW.out.2.2 x6 (HN6.out.ha.cell 0) (HN6.out.ha.cell 1) (HN6.out.ha.cell 2)
  have HD6 : Hid (Blk x6 db (dmaV bb ub ⟨st, ph, desc, fet, buf, wai⟩) 97) := (HN6.out.be.block _ H.out.lt).trans H.out
  go_upto_region 12 with fail
  refine wp_region_list ?_
  go_wp2_with fail
  refine HCC.out.mono ?_
  rintro e x7 ⟨rfl, hx7⟩
  obtain rfl := hx7.symm
  clear HCC hx7
  have c0 : x6.cell? ⟨db, 0, none⟩ = some (.pointer (some ⟨bb, 0, none⟩)) := HD6.out.cell 0
  have HC := hid_of (HG5.out x6 HN6.out.be)
  go_upto_region 14 with fail
  refine wp_region_list ?_
  go_wp2_with fail
  refine HC.out.mono ?_
  rintro e x8 ⟨rfl, hv⟩
  have HN8 : Hid (NR w x8 w.heap.size (w.heap.size + 1) #[.int .u32 r0, .int .u32 r1, .int .u32 r2, .int .u32 r3]) := HN6.out.below hv
  clear HC HN6 hv c0 HD6
  have HN6 := HN8
  clear HN8
  have HD6 : Hid (Blk x8 db (dmaV bb ub ⟨st, ph, desc, fet, buf, wai⟩) 97) := (HN6.out.be.block _ H.out.lt).trans H.out
  obtain ⟨u8, hu8, hl8⟩ := HD6.out.out
  have HF8 : Hid (Fr (fun k => k = db) w (put u8 db (dmaV bb ub ⟨5, ph, desc, fet, buf, wai⟩) 97) ∧ Blk (put u8 db (dmaV bb ub ⟨5, ph, desc, fet, buf, wai⟩) 97) w.heap.size #[.bool false, .int .u32 0, .int .u32 0] 64) := by
    have f2 := (Fr.of_below (K := fun k => k = db) HN6.out.be).put (b := db) (fun _ => rfl) (dmaV bb ub ⟨5, ph, desc, fet, buf, wai⟩) 97
    have h2 := HN6.out.hr.put_ne (b := db) (cs := dmaV bb ub ⟨5, ph, desc, fet, buf, wai⟩) (T := 97) (HN6.out.hr.neT HD6.out (by decide))
    rw [hu8, put_put] at f2 h2
    exact ⟨f2, h2⟩
  have hu8' : x8 = put u8 db #[.pointer (some ⟨bb, 0, none⟩), .pointer (some ⟨ub, 0, none⟩), .int .u8 st, .int .u8 ph, .int .u32 desc, .int .i64 ((fet : Nat) : Int), .int .u32 buf, .bool wai] 97 := hu8
  have hnr : w.heap.size ≠ db := HN6.out.hr.neT HD6.out (by decide)
  have HLD : Hid (db < w.heap.size) := H.out.lt
  clear HN6 HD6 hu8 HG0 HG1 HG2 HG3 HG4 HG5 H
  subst hu8'
  go_upto_region 20 with fail
  have HD8 : Hid (Blk (put u8 db #[.pointer (some ⟨bb, 0, none⟩), .pointer (some ⟨ub, 0, none⟩), .int .u8 5, .int .u8 ph, .int .u32 desc, .int .i64 ((fet : Nat) : Int), .int .u32 buf, .bool wai] 97) db (dmaV bb ub ⟨5, ph, desc, fet, buf, wai⟩) 97) := Blk.put_same hl8
  obtain ⟨x9, hx9⟩ : ∃ x9, put u8 db #[.pointer (some ⟨bb, 0, none⟩), .pointer (some ⟨ub, 0, none⟩), .int .u8 5, .int .u8 ph, .int .u32 desc, .int .i64 ((fet : Nat) : Int), .int .u32 buf, .bool wai] 97 = x9 := ⟨_, rfl⟩
  have HF9 : Hid (Fr (fun k => k = db) w x9 ∧ Blk x9 w.heap.size #[.bool false, .int .u32 0, .int .u32 0] 64) := by rw [← hx9]; exact HF8.out
  rw [hx9] at HD8 ⊢
  clear hx9 HF8 hl8
  obtain ⟨u9, hu9, hl9⟩ := HF9.out.2.out
  rw [hu9]
  go_wp2_with fail
  rw [← hu9]
  refine ⟨rfl, _, results_row_tmp2 (fn := Try.f72) (p := 2) (t := 3) rfl _ _ w.heap.size 64 _ (0, 0) _ (.bool false) (by rfl) HF9.out.2 Try.underlying64 rfl (by rw [size64]; rfl) rfl, ?_⟩
  exact ⟨rfl, HD8.out, HFIN.out _ HF9.out.1⟩
set_option maxRecDepth 100000 in
set_option maxHeartbeats 4000000 in
theorem nex_w (db bb cb ub : Nat) (fv : Value) (st desc : Int) (fet : Nat) (buf : Int) (wai : Bool) (B : BD) (hB : B.Ok) (hc : (crcF (B.get 49) (B.get 50) (B.get 51) != B.get 52) = false) (hk : ¬ B.get 51 > 16) (hi : (B.get 53 != B.get 54) = false) (w : World) (hd : Blk w db (dmaV bb ub ⟨st, 2, desc, fet, buf, wai⟩) 97) (hb : BR w bb cb fv B) :
    Calls Try.prog 72 #[.pointer (some ⟨db, 0, none⟩)] w fun e w' => e = .returned (.tuple #[.agg #[.bool true, .int .u32 ((B.get 50 + 4 * B.get 53) % 4294967296), .int .u32 (buf)], .bool true]) ∧ Blk w' db (dmaV bb ub ⟨st, 2, desc, fet, buf, wai⟩) 97 ∧ BR w' bb cb fv B ∧ Fr (fun k => k = db ∨ k = cb) w w' := by
  have H := hid_of hd
  have HB := hid_of hb
  have w0 := hB.get 49
  have w1 := hB.get 50
  have w2 := hB.get 51
  have w3 := hB.get 52
  have w4 := hB.get 53
  have HGET : Hid (∀ (site : Nat), site < 55 → ∀ V : World, Below w.heap.size w V → Calls Try.prog 58 #[.pointer (some ⟨bb, 0, none⟩), .int .i64 (site : Nat)] V fun e w' => e = .returned (.int .u32 (B.get site)) ∧ Below V.heap.size V w') := fun site hs V hV => get_any bb cb site hs fv B V (hb.below hV)
  have G0 := HGET.out 49 (by decide)
  have G1 := HGET.out 50 (by decide)
  have G2 := HGET.out 51 (by decide)
  have G3 := HGET.out 52 (by decide)
  have G4 := HGET.out 53 (by decide)
  have G5 := HGET.out 54 (by decide)
  have HFIN : Hid (∀ V : World, Fr (fun k => k = db) w V → BR V bb cb fv B ∧ Fr (fun k => k = db ∨ k = cb) w V) := fun V f =>
    ⟨⟨HB.out.blk.fr f (HB.out.blk.neT H.out (by decide)), HB.out.cel.fr f (HB.out.cel.neT H.out (by decide)), HB.out.sl.fr f fun k hk => H.out.sl_ne (by decide) HB.out.sl k hk, HB.out.ok, HB.out.len, HB.out.now⟩, f.mono fun b _ e => .inl e⟩
  clear HGET
  generalize B.get 49 = r0 at *
  generalize B.get 50 = r1 at *
  generalize B.get 51 = r2 at *
  generalize B.get 52 = r3 at *
  generalize B.get 53 = ix at *
  generalize B.get 54 = iy at *
  have HG0 := hid_of G0
  have HG1 := hid_of G1
  have HG2 := hid_of G2
  have HG3 := hid_of G3
  have HG4 := hid_of G4
  have HG5 := hid_of G5
  clear G0 G1 G2 G3 G4 G5
  have HW : Hid (W32 r0 ∧ W32 r1 ∧ W32 r2) := ⟨w0, w1, w2⟩
  obtain ⟨cr, hcr⟩ : ∃ cr, crcF r0 r1 r2 = cr := ⟨_, rfl⟩
  rw [hcr] at hc
  have HCR := hid_of hcr
  clear hcr
  obtain ⟨W, hW⟩ : ∃ W, (w.alloc (.cells #[.bool false, .int .u32 0, .int .u32 0] 64)).alloc (.cells #[.int .u32 0, .int .u32 0, .int .u32 0, .int .u32 0] 99) = W := ⟨_, rfl⟩
  have HN : Hid (NR w W w.heap.size (w.heap.size + 1) #[.int .u32 0, .int .u32 0, .int .u32 0, .int .u32 0]) := by rw [← hW]; exact nr_start w
  have c3w : w.cell? ⟨db, 3, none⟩ = some (.int .u8 2) := hd.cell 3
  have c3 := ca1 w (.cells #[.bool false, .int .u32 0, .int .u32 0] 64) _ _ c3w
  clear hd hb c3w hB w0 w1 w2 w3 w4
  go_enter Try.func72, Try.ntmps72
  go_upto_region 4 with fail
  clear hW c3
  go_wp2_with fail
  refine wp_loop_rounds 5 ?_
  rw [rounds_succ]
  have hd0 : Blk W db (dmaV bb ub ⟨st, 2, desc, fet, buf, wai⟩) 97 := (HN.out.be.block _ H.out.lt).trans H.out
  have c0 : W.cell? ⟨db, 0, none⟩ = some (.pointer (some ⟨bb, 0, none⟩)) := hd0.cell 0
  have HC := hid_of (HG0.out W HN.out.be)
  clear hd0
  go_wp2_with fail
  refine HC.out.mono ?_
  rintro e v0 ⟨rfl, hv⟩
  have HM : Hid (NR w v0 w.heap.size (w.heap.size + 1) #[.int .u32 0, .int .u32 0, .int .u32 0, .int .u32 0]) := HN.out.below hv
  clear HC HN hv c0
  obtain ⟨u0, hu, hl⟩ := HM.out.ha.out
  have HN9 : Hid (NR w (put u0 (w.heap.size + 1) #[.int .u32 r0, .int .u32 0, .int .u32 0, .int .u32 0] 99) w.heap.size (w.heap.size + 1) #[.int .u32 r0, .int .u32 0, .int .u32 0, .int .u32 0]) := by
    have := HM.out.arr #[.int .u32 r0, .int .u32 0, .int .u32 0, .int .u32 0]
    rw [hu, put_put] at this
    exact this
  clear HM
  subst hu
  go_wp2_with fail
  obtain ⟨x1, hx9⟩ : ∃ x, put u0 (w.heap.size + 1) #[.int .u32 r0, .int .u32 0, .int .u32 0, .int .u32 0] 99 = x := ⟨_, rfl⟩
  rw [hx9] at HN9 ⊢
  have HN := HN9
  clear hx9 HN9 hl
  rw [rounds_succ]
  have hd1 : Blk x1 db (dmaV bb ub ⟨st, 2, desc, fet, buf, wai⟩) 97 := (HN.out.be.block _ H.out.lt).trans H.out
  have c0 : x1.cell? ⟨db, 0, none⟩ = some (.pointer (some ⟨bb, 0, none⟩)) := hd1.cell 0
  have HC := hid_of (HG1.out x1 HN.out.be)
  clear hd1
  go_wp2_with fail
  refine HC.out.mono ?_
  rintro e v1 ⟨rfl, hv⟩
  have HM : Hid (NR w v1 w.heap.size (w.heap.size + 1) #[.int .u32 r0, .int .u32 0, .int .u32 0, .int .u32 0]) := HN.out.below hv
  clear HC HN hv c0
  obtain ⟨u1, hu, hl⟩ := HM.out.ha.out
  have HN9 : Hid (NR w (put u1 (w.heap.size + 1) #[.int .u32 r0, .int .u32 r1, .int .u32 0, .int .u32 0] 99) w.heap.size (w.heap.size + 1) #[.int .u32 r0, .int .u32 r1, .int .u32 0, .int .u32 0]) := by
    have := HM.out.arr #[.int .u32 r0, .int .u32 r1, .int .u32 0, .int .u32 0]
    rw [hu, put_put] at this
    exact this
  clear HM
  subst hu
  go_wp2_with fail
  obtain ⟨x2, hx9⟩ : ∃ x, put u1 (w.heap.size + 1) #[.int .u32 r0, .int .u32 r1, .int .u32 0, .int .u32 0] 99 = x := ⟨_, rfl⟩
  rw [hx9] at HN9 ⊢
  have HN := HN9
  clear hx9 HN9 hl
  rw [rounds_succ]
  have hd2 : Blk x2 db (dmaV bb ub ⟨st, 2, desc, fet, buf, wai⟩) 97 := (HN.out.be.block _ H.out.lt).trans H.out
  have c0 : x2.cell? ⟨db, 0, none⟩ = some (.pointer (some ⟨bb, 0, none⟩)) := hd2.cell 0
  have HC := hid_of (HG2.out x2 HN.out.be)
  clear hd2
  go_wp2_with fail
  refine HC.out.mono ?_
  rintro e v2 ⟨rfl, hv⟩
  have HM : Hid (NR w v2 w.heap.size (w.heap.size + 1) #[.int .u32 r0, .int .u32 r1, .int .u32 0, .int .u32 0]) := HN.out.below hv
  clear HC HN hv c0
  obtain ⟨u2, hu, hl⟩ := HM.out.ha.out
  have HN9 : Hid (NR w (put u2 (w.heap.size + 1) #[.int .u32 r0, .int .u32 r1, .int .u32 r2, .int .u32 0] 99) w.heap.size (w.heap.size + 1) #[.int .u32 r0, .int .u32 r1, .int .u32 r2, .int .u32 0]) := by
    have := HM.out.arr #[.int .u32 r0, .int .u32 r1, .int .u32 r2, .int .u32 0]
    rw [hu, put_put] at this
    exact this
  clear HM
  subst hu
  go_wp2_with fail
  obtain ⟨x3, hx9⟩ : ∃ x, put u2 (w.heap.size + 1) #[.int .u32 r0, .int .u32 r1, .int .u32 r2, .int .u32 0] 99 = x := ⟨_, rfl⟩
  rw [hx9] at HN9 ⊢
  have HN := HN9
  clear hx9 HN9 hl
  rw [rounds_succ]
  have hd3 : Blk x3 db (dmaV bb ub ⟨st, 2, desc, fet, buf, wai⟩) 97 := (HN.out.be.block _ H.out.lt).trans H.out
  have c0 : x3.cell? ⟨db, 0, none⟩ = some (.pointer (some ⟨bb, 0, none⟩)) := hd3.cell 0
  have HC := hid_of (HG3.out x3 HN.out.be)
  clear hd3
  go_wp2_with fail
  refine HC.out.mono ?_
  rintro e v3 ⟨rfl, hv⟩
  have HM : Hid (NR w v3 w.heap.size (w.heap.size + 1) #[.int .u32 r0, .int .u32 r1, .int .u32 r2, .int .u32 0]) := HN.out.below hv
  clear HC HN hv c0
  obtain ⟨u3, hu, hl⟩ := HM.out.ha.out
  have HN9 : Hid (NR w (put u3 (w.heap.size + 1) #[.int .u32 r0, .int .u32 r1, .int .u32 r2, .int .u32 r3] 99) w.heap.size (w.heap.size + 1) #[.int .u32 r0, .int .u32 r1, .int .u32 r2, .int .u32 r3]) := by
    have := HM.out.arr #[.int .u32 r0, .int .u32 r1, .int .u32 r2, .int .u32 r3]
    rw [hu, put_put] at this
    exact this
  clear HM
  subst hu
  go_wp2_with fail
  obtain ⟨x4, hx9⟩ : ∃ x, put u3 (w.heap.size + 1) #[.int .u32 r0, .int .u32 r1, .int .u32 r2, .int .u32 r3] 99 = x := ⟨_, rfl⟩
  rw [hx9] at HN9 ⊢
  have HN := HN9
  clear hx9 HN9 hl
  rw [rounds_succ]
  go_upto_region 9 with fail
  have a0 : x4.cell? ⟨w.heap.size + 1, 0, none⟩ = some (.int .u32 r0) := HN.out.ha.cell 0
  have a1 : x4.cell? ⟨w.heap.size + 1, 1, none⟩ = some (.int .u32 r1) := HN.out.ha.cell 1
  have a2 : x4.cell? ⟨w.heap.size + 1, 2, none⟩ = some (.int .u32 r2) := HN.out.ha.cell 2
  have a3 : x4.cell? ⟨w.heap.size + 1, 3, none⟩ = some (.int .u32 r3) := HN.out.ha.cell 3
  go_quiet (fail)
  rename_i nq
  go_upto_region 10 with fail
  have HN5 : Hid (NR w (x4.drewN nq) w.heap.size (w.heap.size + 1) #[.int .u32 r0, .int .u32 r1, .int .u32 r2, .int .u32 r3]) := HN.out.drewN nq
  obtain ⟨x5, hx5⟩ : ∃ x5, x4.drewN nq = x5 := ⟨_, rfl⟩
  rw [hx5] at HN5 ⊢
  clear hx5 HN a0 a1 a2 a3
  have hd5 : Blk x5 db (dmaV bb ub ⟨st, 2, desc, fet, buf, wai⟩) 97 := (HN5.out.be.block _ H.out.lt).trans H.out
  have c0 : x5.cell? ⟨db, 0, none⟩ = some (.pointer (some ⟨bb, 0, none⟩)) := hd5.cell 0
  have HC := hid_of (HG4.out x5 HN5.out.be)
  clear hd5
  refine wp_region_list ?_
  go_wp2_with fail
  refine HC.out.mono ?_
  rintro e x6 ⟨rfl, hv⟩
  have HN6 : Hid (NR w x6 w.heap.size (w.heap.size + 1) #[.int .u32 r0, .int .u32 r1, .int .u32 r2, .int .u32 r3]) := HN5.out.below hv
  clear HC HN5 hv c0
  have HCC : Hid (Calls Try.prog 45 #[.slice (some ⟨w.heap.size + 1, 0, none⟩) 3 4] x6 fun e w' => e = .returned (.int .u32 cr) ∧ w' = x6) := by
    rw [← HCR.out]
    exact crc_any (w.heap.size + 1) 4 r0 r1 r2 HW.out.1 HW.out.2.1 HW.out.2.2 x6 (HN6.out.ha.cell 0) (HN6.out.ha.cell 1) (HN6.out.ha.cell 2)
  have HD6 : Hid (Blk x6 db (dmaV bb ub ⟨st, 2, desc, fet, buf, wai⟩) 97) := (HN6.out.be.block _ H.out.lt).trans H.out
  go_upto_region 12 with fail
  refine wp_region_list ?_
  go_wp2_with fail
  refine HCC.out.mono ?_
  rintro e x7 ⟨rfl, hx7⟩
  obtain rfl := hx7.symm
  clear HCC hx7
  have c0 : x6.cell? ⟨db, 0, none⟩ = some (.pointer (some ⟨bb, 0, none⟩)) := HD6.out.cell 0
  have HC := hid_of (HG5.out x6 HN6.out.be)
  go_upto_region 14 with fail
  refine wp_region_list ?_
  go_wp2_with fail
  refine HC.out.mono ?_
  rintro e x8 ⟨rfl, hv⟩
  have HN8 : Hid (NR w x8 w.heap.size (w.heap.size + 1) #[.int .u32 r0, .int .u32 r1, .int .u32 r2, .int .u32 r3]) := HN6.out.below hv
  clear HC HN6 hv c0 HD6
  have HN6 := HN8
  clear HN8
  have HD6 : Hid (Blk x8 db (dmaV bb ub ⟨st, 2, desc, fet, buf, wai⟩) 97) := (HN6.out.be.block _ H.out.lt).trans H.out
  have c3 : x8.cell? ⟨db, 3, none⟩ = some (.int .u8 2) := HD6.out.cell 3
  have c6 : x8.cell? ⟨db, 6, none⟩ = some (.int .u32 buf) := HD6.out.cell 6
  go_upto_region 17 with fail
  obtain ⟨u9, hu9, hl9⟩ := HN6.out.hr.out
  have hnr : db ≠ w.heap.size := HD6.out.neT HN6.out.hr (by decide)
  have HF9 : Hid (Fr (fun k => k = db) w (put u9 w.heap.size #[.bool true, .int .u32 ((r1 + 4 * ix) % 4294967296), .int .u32 buf] 64) ∧ Blk (put u9 w.heap.size #[.bool true, .int .u32 ((r1 + 4 * ix) % 4294967296), .int .u32 buf] 64) db (dmaV bb ub ⟨st, 2, desc, fet, buf, wai⟩) 97) := by
    have f2 := (Fr.of_below (K := fun k => k = db) HN6.out.be).put (b := w.heap.size) (fun q => absurd q (Nat.lt_irrefl _)) #[.bool true, .int .u32 ((r1 + 4 * ix) % 4294967296), .int .u32 buf] 64
    have h2 := HD6.out.put_ne (b := w.heap.size) (cs := #[.bool true, .int .u32 ((r1 + 4 * ix) % 4294967296), .int .u32 buf]) (T := 64) hnr
    rw [hu9, put_put] at f2 h2
    exact ⟨f2, h2⟩
  rw [hu9] at c3 c6
  clear HN6 HD6
  subst hu9
  go_wp2_with fail
  refine ⟨rfl, _, results_row_tmp2 (fn := Try.f72) (p := 2) (t := 3) rfl _ _ w.heap.size 64 _ (0, 0) _ (.bool true) (by rfl) (Blk.put_same hl9) Try.underlying64 rfl (by rw [size64]; rfl) rfl, ?_⟩
  exact ⟨rfl, HF9.out.2, HFIN.out _ HF9.out.1⟩
set_option maxRecDepth 100000 in
set_option maxHeartbeats 4000000 in
theorem nex_r (db bb cb ub : Nat) (fv : Value) (st desc : Int) (fet : Nat) (buf : Int) (wai : Bool) (B : BD) (hB : B.Ok) (hc : (crcF (B.get 49) (B.get 50) (B.get 51) != B.get 52) = false) (hk : ¬ B.get 51 > 16) (hi : (B.get 53 != B.get 54) = false) (hx : B.get 53 < B.get 51) (w : World) (hd : Blk w db (dmaV bb ub ⟨st, 1, desc, fet, buf, wai⟩) 97) (hb : BR w bb cb fv B) :
    Calls Try.prog 72 #[.pointer (some ⟨db, 0, none⟩)] w fun e w' => e = .returned (.tuple #[.agg #[.bool false, .int .u32 ((B.get 49 + 4 * B.get 53) % 4294967296), .int .u32 (0)], .bool true]) ∧ Blk w' db (dmaV bb ub ⟨st, 1, desc, fet, buf, wai⟩) 97 ∧ BR w' bb cb fv B ∧ Fr (fun k => k = db ∨ k = cb) w w' := by
  have H := hid_of hd
  have HB := hid_of hb
  have w0 := hB.get 49
  have w1 := hB.get 50
  have w2 := hB.get 51
  have w3 := hB.get 52
  have w4 := hB.get 53
  have HGET : Hid (∀ (site : Nat), site < 55 → ∀ V : World, Below w.heap.size w V → Calls Try.prog 58 #[.pointer (some ⟨bb, 0, none⟩), .int .i64 (site : Nat)] V fun e w' => e = .returned (.int .u32 (B.get site)) ∧ Below V.heap.size V w') := fun site hs V hV => get_any bb cb site hs fv B V (hb.below hV)
  have G0 := HGET.out 49 (by decide)
  have G1 := HGET.out 50 (by decide)
  have G2 := HGET.out 51 (by decide)
  have G3 := HGET.out 52 (by decide)
  have G4 := HGET.out 53 (by decide)
  have G5 := HGET.out 54 (by decide)
  have HFIN : Hid (∀ V : World, Fr (fun k => k = db) w V → BR V bb cb fv B ∧ Fr (fun k => k = db ∨ k = cb) w V) := fun V f =>
    ⟨⟨HB.out.blk.fr f (HB.out.blk.neT H.out (by decide)), HB.out.cel.fr f (HB.out.cel.neT H.out (by decide)), HB.out.sl.fr f fun k hk => H.out.sl_ne (by decide) HB.out.sl k hk, HB.out.ok, HB.out.len, HB.out.now⟩, f.mono fun b _ e => .inl e⟩
  clear HGET
  generalize B.get 49 = r0 at *
  generalize B.get 50 = r1 at *
  generalize B.get 51 = r2 at *
  generalize B.get 52 = r3 at *
  generalize B.get 53 = ix at *
  generalize B.get 54 = iy at *
  have HG0 := hid_of G0
  have HG1 := hid_of G1
  have HG2 := hid_of G2
  have HG3 := hid_of G3
  have HG4 := hid_of G4
  have HG5 := hid_of G5
  clear G0 G1 G2 G3 G4 G5
  have HW : Hid (W32 r0 ∧ W32 r1 ∧ W32 r2) := ⟨w0, w1, w2⟩
  obtain ⟨cr, hcr⟩ : ∃ cr, crcF r0 r1 r2 = cr := ⟨_, rfl⟩
  rw [hcr] at hc
  have HCR := hid_of hcr
  clear hcr
  obtain ⟨W, hW⟩ : ∃ W, (w.alloc (.cells #[.bool false, .int .u32 0, .int .u32 0] 64)).alloc (.cells #[.int .u32 0, .int .u32 0, .int .u32 0, .int .u32 0] 99) = W := ⟨_, rfl⟩
  have HN : Hid (NR w W w.heap.size (w.heap.size + 1) #[.int .u32 0, .int .u32 0, .int .u32 0, .int .u32 0]) := by rw [← hW]; exact nr_start w
  have c3w : w.cell? ⟨db, 3, none⟩ = some (.int .u8 1) := hd.cell 3
  have c3 := ca1 w (.cells #[.bool false, .int .u32 0, .int .u32 0] 64) _ _ c3w
  clear hd hb c3w hB w0 w1 w2 w3 w4
  go_enter Try.func72, Try.ntmps72
  go_upto_region 4 with fail
  clear hW c3
  go_wp2_with fail
  refine wp_loop_rounds 5 ?_
  rw [rounds_succ]
  have hd0 : Blk W db (dmaV bb ub ⟨st, 1, desc, fet, buf, wai⟩) 97 := (HN.out.be.block _ H.out.lt).trans H.out
  have c0 : W.cell? ⟨db, 0, none⟩ = some (.pointer (some ⟨bb, 0, none⟩)) := hd0.cell 0
  have HC := hid_of (HG0.out W HN.out.be)
  clear hd0
  go_wp2_with fail
  refine HC.out.mono ?_
  rintro e v0 ⟨rfl, hv⟩
  have HM : Hid (NR w v0 w.heap.size (w.heap.size + 1) #[.int .u32 0, .int .u32 0, .int .u32 0, .int .u32 0]) := HN.out.below hv
  clear HC HN hv c0
  obtain ⟨u0, hu, hl⟩ := HM.out.ha.out
  have HN9 : Hid (NR w (put u0 (w.heap.size + 1) #[.int .u32 r0, .int .u32 0, .int .u32 0, .int .u32 0] 99) w.heap.size (w.heap.size + 1) #[.int .u32 r0, .int .u32 0, .int .u32 0, .int .u32 0]) := by
    have := HM.out.arr #[.int .u32 r0, .int .u32 0, .int .u32 0, .int .u32 0]
    rw [hu, put_put] at this
    exact this
  clear HM
  subst hu
  go_wp2_with fail
  obtain ⟨x1, hx9⟩ : ∃ x, put u0 (w.heap.size + 1) #[.int .u32 r0, .int .u32 0, .int .u32 0, .int .u32 0] 99 = x := ⟨_, rfl⟩
  rw [hx9] at HN9 ⊢
  have HN := HN9
  clear hx9 HN9 hl
  rw [rounds_succ]
  have hd1 : Blk x1 db (dmaV bb ub ⟨st, 1, desc, fet, buf, wai⟩) 97 := (HN.out.be.block _ H.out.lt).trans H.out
  have c0 : x1.cell? ⟨db, 0, none⟩ = some (.pointer (some ⟨bb, 0, none⟩)) := hd1.cell 0
  have HC := hid_of (HG1.out x1 HN.out.be)
  clear hd1
  go_wp2_with fail
  refine HC.out.mono ?_
  rintro e v1 ⟨rfl, hv⟩
  have HM : Hid (NR w v1 w.heap.size (w.heap.size + 1) #[.int .u32 r0, .int .u32 0, .int .u32 0, .int .u32 0]) := HN.out.below hv
  clear HC HN hv c0
  obtain ⟨u1, hu, hl⟩ := HM.out.ha.out
  have HN9 : Hid (NR w (put u1 (w.heap.size + 1) #[.int .u32 r0, .int .u32 r1, .int .u32 0, .int .u32 0] 99) w.heap.size (w.heap.size + 1) #[.int .u32 r0, .int .u32 r1, .int .u32 0, .int .u32 0]) := by
    have := HM.out.arr #[.int .u32 r0, .int .u32 r1, .int .u32 0, .int .u32 0]
    rw [hu, put_put] at this
    exact this
  clear HM
  subst hu
  go_wp2_with fail
  obtain ⟨x2, hx9⟩ : ∃ x, put u1 (w.heap.size + 1) #[.int .u32 r0, .int .u32 r1, .int .u32 0, .int .u32 0] 99 = x := ⟨_, rfl⟩
  rw [hx9] at HN9 ⊢
  have HN := HN9
  clear hx9 HN9 hl
  rw [rounds_succ]
  have hd2 : Blk x2 db (dmaV bb ub ⟨st, 1, desc, fet, buf, wai⟩) 97 := (HN.out.be.block _ H.out.lt).trans H.out
  have c0 : x2.cell? ⟨db, 0, none⟩ = some (.pointer (some ⟨bb, 0, none⟩)) := hd2.cell 0
  have HC := hid_of (HG2.out x2 HN.out.be)
  clear hd2
  go_wp2_with fail
  refine HC.out.mono ?_
  rintro e v2 ⟨rfl, hv⟩
  have HM : Hid (NR w v2 w.heap.size (w.heap.size + 1) #[.int .u32 r0, .int .u32 r1, .int .u32 0, .int .u32 0]) := HN.out.below hv
  clear HC HN hv c0
  obtain ⟨u2, hu, hl⟩ := HM.out.ha.out
  have HN9 : Hid (NR w (put u2 (w.heap.size + 1) #[.int .u32 r0, .int .u32 r1, .int .u32 r2, .int .u32 0] 99) w.heap.size (w.heap.size + 1) #[.int .u32 r0, .int .u32 r1, .int .u32 r2, .int .u32 0]) := by
    have := HM.out.arr #[.int .u32 r0, .int .u32 r1, .int .u32 r2, .int .u32 0]
    rw [hu, put_put] at this
    exact this
  clear HM
  subst hu
  go_wp2_with fail
  obtain ⟨x3, hx9⟩ : ∃ x, put u2 (w.heap.size + 1) #[.int .u32 r0, .int .u32 r1, .int .u32 r2, .int .u32 0] 99 = x := ⟨_, rfl⟩
  rw [hx9] at HN9 ⊢
  have HN := HN9
  clear hx9 HN9 hl
  rw [rounds_succ]
  have hd3 : Blk x3 db (dmaV bb ub ⟨st, 1, desc, fet, buf, wai⟩) 97 := (HN.out.be.block _ H.out.lt).trans H.out
  have c0 : x3.cell? ⟨db, 0, none⟩ = some (.pointer (some ⟨bb, 0, none⟩)) := hd3.cell 0
  have HC := hid_of (HG3.out x3 HN.out.be)
  clear hd3
  go_wp2_with fail
  refine HC.out.mono ?_
  rintro e v3 ⟨rfl, hv⟩
  have HM : Hid (NR w v3 w.heap.size (w.heap.size + 1) #[.int .u32 r0, .int .u32 r1, .int .u32 r2, .int .u32 0]) := HN.out.below hv
  clear HC HN hv c0
  obtain ⟨u3, hu, hl⟩ := HM.out.ha.out
  have HN9 : Hid (NR w (put u3 (w.heap.size + 1) #[.int .u32 r0, .int .u32 r1, .int .u32 r2, .int .u32 r3] 99) w.heap.size (w.heap.size + 1) #[.int .u32 r0, .int .u32 r1, .int .u32 r2, .int .u32 r3]) := by
    have := HM.out.arr #[.int .u32 r0, .int .u32 r1, .int .u32 r2, .int .u32 r3]
    rw [hu, put_put] at this
    exact this
  clear HM
  subst hu
  go_wp2_with fail
  obtain ⟨x4, hx9⟩ : ∃ x, put u3 (w.heap.size + 1) #[.int .u32 r0, .int .u32 r1, .int .u32 r2, .int .u32 r3] 99 = x := ⟨_, rfl⟩
  rw [hx9] at HN9 ⊢
  have HN := HN9
  clear hx9 HN9 hl
  rw [rounds_succ]
  go_upto_region 9 with fail
  have a0 : x4.cell? ⟨w.heap.size + 1, 0, none⟩ = some (.int .u32 r0) := HN.out.ha.cell 0
  have a1 : x4.cell? ⟨w.heap.size + 1, 1, none⟩ = some (.int .u32 r1) := HN.out.ha.cell 1
  have a2 : x4.cell? ⟨w.heap.size + 1, 2, none⟩ = some (.int .u32 r2) := HN.out.ha.cell 2
  have a3 : x4.cell? ⟨w.heap.size + 1, 3, none⟩ = some (.int .u32 r3) := HN.out.ha.cell 3
  go_quiet (fail)
  rename_i nq
  go_upto_region 10 with fail
  have HN5 : Hid (NR w (x4.drewN nq) w.heap.size (w.heap.size + 1) #[.int .u32 r0, .int .u32 r1, .int .u32 r2, .int .u32 r3]) := HN.out.drewN nq
  obtain ⟨x5, hx5⟩ : ∃ x5, x4.drewN nq = x5 := ⟨_, rfl⟩
  rw [hx5] at HN5 ⊢
  clear hx5 HN a0 a1 a2 a3
  have hd5 : Blk x5 db (dmaV bb ub ⟨st, 1, desc, fet, buf, wai⟩) 97 := (HN5.out.be.block _ H.out.lt).trans H.out
  have c0 : x5.cell? ⟨db, 0, none⟩ = some (.pointer (some ⟨bb, 0, none⟩)) := hd5.cell 0
  have HC := hid_of (HG4.out x5 HN5.out.be)
  clear hd5
  refine wp_region_list ?_
  go_wp2_with fail
  refine HC.out.mono ?_
  rintro e x6 ⟨rfl, hv⟩
  have HN6 : Hid (NR w x6 w.heap.size (w.heap.size + 1) #[.int .u32 r0, .int .u32 r1, .int .u32 r2, .int .u32 r3]) := HN5.out.below hv
  clear HC HN5 hv c0
  have HCC : Hid (Calls Try.prog 45 #[.slice (some ⟨w.heap.size + 1, 0, none⟩) 3 4] x6 fun e w' => e = .returned (.int .u32 cr) ∧ w' = x6) := by
    rw [← HCR.out]
    exact crc_any (w.heap.size + 1) 4 r0 r1 r2 HW.out.1 HW.out.2.1 HW.out.2.2 x6 (HN6.out.ha.cell 0) (HN6.out.ha.cell 1) (HN6.out.ha.cell 2)
  have HD6 : Hid (Blk x6 db (dmaV bb ub ⟨st, 1, desc, fet, buf, wai⟩) 97) := (HN6.out.be.block _ H.out.lt).trans H.out
  go_upto_region 12 with fail
  refine wp_region_list ?_
  go_wp2_with fail
  refine HCC.out.mono ?_
  rintro e x7 ⟨rfl, hx7⟩
  obtain rfl := hx7.symm
  clear HCC hx7
  have c0 : x6.cell? ⟨db, 0, none⟩ = some (.pointer (some ⟨bb, 0, none⟩)) := HD6.out.cell 0
  have HC := hid_of (HG5.out x6 HN6.out.be)
  go_upto_region 14 with fail
  refine wp_region_list ?_
  go_wp2_with fail
  refine HC.out.mono ?_
  rintro e x8 ⟨rfl, hv⟩
  have HN8 : Hid (NR w x8 w.heap.size (w.heap.size + 1) #[.int .u32 r0, .int .u32 r1, .int .u32 r2, .int .u32 r3]) := HN6.out.below hv
  clear HC HN6 hv c0 HD6
  have HN6 := HN8
  clear HN8
  have HD6 : Hid (Blk x8 db (dmaV bb ub ⟨st, 1, desc, fet, buf, wai⟩) 97) := (HN6.out.be.block _ H.out.lt).trans H.out
  have c3 : x8.cell? ⟨db, 3, none⟩ = some (.int .u8 1) := HD6.out.cell 3
  go_upto_region 19 with fail
  obtain ⟨u9, hu9, hl9⟩ := HN6.out.hr.out
  have hnr : db ≠ w.heap.size := HD6.out.neT HN6.out.hr (by decide)
  have HF9 : Hid (Fr (fun k => k = db) w (put u9 w.heap.size #[.bool false, .int .u32 ((r0 + 4 * ix) % 4294967296), .int .u32 0] 64) ∧ Blk (put u9 w.heap.size #[.bool false, .int .u32 ((r0 + 4 * ix) % 4294967296), .int .u32 0] 64) db (dmaV bb ub ⟨st, 1, desc, fet, buf, wai⟩) 97) := by
    have f2 := (Fr.of_below (K := fun k => k = db) HN6.out.be).put (b := w.heap.size) (fun q => absurd q (Nat.lt_irrefl _)) #[.bool false, .int .u32 ((r0 + 4 * ix) % 4294967296), .int .u32 0] 64
    have h2 := HD6.out.put_ne (b := w.heap.size) (cs := #[.bool false, .int .u32 ((r0 + 4 * ix) % 4294967296), .int .u32 0]) (T := 64) hnr
    rw [hu9, put_put] at f2 h2
    exact ⟨f2, h2⟩
  clear c3
  clear HN6 HD6
  subst hu9
  go_wp2_with fail
  refine ⟨rfl, _, results_row_tmp2 (fn := Try.f72) (p := 2) (t := 3) rfl _ _ w.heap.size 64 _ (0, 0) _ (.bool true) (by rfl) (Blk.put_same hl9) Try.underlying64 rfl (by rw [size64]; rfl) rfl, ?_⟩
  exact ⟨rfl, HF9.out.2, HFIN.out _ HF9.out.1⟩
set_option maxRecDepth 100000 in
set_option maxHeartbeats 4000000 in
theorem nex_d (db bb cb ub : Nat) (fv : Value) (st desc : Int) (fet : Nat) (buf : Int) (wai : Bool) (B : BD) (hB : B.Ok) (hc : (crcF (B.get 49) (B.get 50) (B.get 51) != B.get 52) = false) (hk : ¬ B.get 51 > 16) (hi : (B.get 53 != B.get 54) = false) (hx : ¬ B.get 53 < B.get 51) (w : World) (hd : Blk w db (dmaV bb ub ⟨st, 1, desc, fet, buf, wai⟩) 97) (hb : BR w bb cb fv B) :
    Calls Try.prog 72 #[.pointer (some ⟨db, 0, none⟩)] w fun e w' => e = .returned (.tuple #[.agg #[.bool false, .int .u32 (0), .int .u32 (0)], .bool false]) ∧ Blk w' db (dmaV bb ub ⟨2, 1, desc, fet, buf, wai⟩) 97 ∧ BR w' bb cb fv B ∧ Fr (fun k => k = db ∨ k = cb) w w' := by
  have H := hid_of hd
  have HB := hid_of hb
  have w0 := hB.get 49
  have w1 := hB.get 50
  have w2 := hB.get 51
  have w3 := hB.get 52
  have w4 := hB.get 53
  have HGET : Hid (∀ (site : Nat), site < 55 → ∀ V : World, Below w.heap.size w V → Calls Try.prog 58 #[.pointer (some ⟨bb, 0, none⟩), .int .i64 (site : Nat)] V fun e w' => e = .returned (.int .u32 (B.get site)) ∧ Below V.heap.size V w') := fun site hs V hV => get_any bb cb site hs fv B V (hb.below hV)
  have G0 := HGET.out 49 (by decide)
  have G1 := HGET.out 50 (by decide)
  have G2 := HGET.out 51 (by decide)
  have G3 := HGET.out 52 (by decide)
  have G4 := HGET.out 53 (by decide)
  have G5 := HGET.out 54 (by decide)
  have HFIN : Hid (∀ V : World, Fr (fun k => k = db) w V → BR V bb cb fv B ∧ Fr (fun k => k = db ∨ k = cb) w V) := fun V f =>
    ⟨⟨HB.out.blk.fr f (HB.out.blk.neT H.out (by decide)), HB.out.cel.fr f (HB.out.cel.neT H.out (by decide)), HB.out.sl.fr f fun k hk => H.out.sl_ne (by decide) HB.out.sl k hk, HB.out.ok, HB.out.len, HB.out.now⟩, f.mono fun b _ e => .inl e⟩
  clear HGET
  generalize B.get 49 = r0 at *
  generalize B.get 50 = r1 at *
  generalize B.get 51 = r2 at *
  generalize B.get 52 = r3 at *
  generalize B.get 53 = ix at *
  generalize B.get 54 = iy at *
  have HG0 := hid_of G0
  have HG1 := hid_of G1
  have HG2 := hid_of G2
  have HG3 := hid_of G3
  have HG4 := hid_of G4
  have HG5 := hid_of G5
  clear G0 G1 G2 G3 G4 G5
  have HW : Hid (W32 r0 ∧ W32 r1 ∧ W32 r2) := ⟨w0, w1, w2⟩
  obtain ⟨cr, hcr⟩ : ∃ cr, crcF r0 r1 r2 = cr := ⟨_, rfl⟩
  rw [hcr] at hc
  have HCR := hid_of hcr
  clear hcr
  obtain ⟨W, hW⟩ : ∃ W, (w.alloc (.cells #[.bool false, .int .u32 0, .int .u32 0] 64)).alloc (.cells #[.int .u32 0, .int .u32 0, .int .u32 0, .int .u32 0] 99) = W := ⟨_, rfl⟩
  have HN : Hid (NR w W w.heap.size (w.heap.size + 1) #[.int .u32 0, .int .u32 0, .int .u32 0, .int .u32 0]) := by rw [← hW]; exact nr_start w
  have c3w : w.cell? ⟨db, 3, none⟩ = some (.int .u8 1) := hd.cell 3
  have c3 := ca1 w (.cells #[.bool false, .int .u32 0, .int .u32 0] 64) _ _ c3w
  clear hd hb c3w hB w0 w1 w2 w3 w4
  go_enter Try.func72, Try.ntmps72
  go_upto_region 4 with fail
  clear hW c3
  go_wp2_with fail
  refine wp_loop_rounds 5 ?_
  rw [rounds_succ]
  have hd0 : Blk W db (dmaV bb ub ⟨st, 1, desc, fet, buf, wai⟩) 97 := (HN.out.be.block _ H.out.lt).trans H.out
  have c0 : W.cell? ⟨db, 0, none⟩ = some (.pointer (some ⟨bb, 0, none⟩)) := hd0.cell 0
  have HC := hid_of (HG0.out W HN.out.be)
  clear hd0
  go_wp2_with fail
  refine HC.out.mono ?_
  rintro e v0 ⟨rfl, hv⟩
  have HM : Hid (NR w v0 w.heap.size (w.heap.size + 1) #[.int .u32 0, .int .u32 0, .int .u32 0, .int .u32 0]) := HN.out.below hv
  clear HC HN hv c0
  obtain ⟨u0, hu, hl⟩ := HM.out.ha.out
  have HN9 : Hid (NR w (put u0 (w.heap.size + 1) #[.int .u32 r0, .int .u32 0, .int .u32 0, .int .u32 0] 99) w.heap.size (w.heap.size + 1) #[.int .u32 r0, .int .u32 0, .int .u32 0, .int .u32 0]) := by
    have := HM.out.arr #[.int .u32 r0, .int .u32 0, .int .u32 0, .int .u32 0]
    rw [hu, put_put] at this
    exact this
  clear HM
  subst hu
  go_wp2_with fail
  obtain ⟨x1, hx9⟩ : ∃ x, put u0 (w.heap.size + 1) #[.int .u32 r0, .int .u32 0, .int .u32 0, .int .u32 0] 99 = x := ⟨_, rfl⟩
  rw [hx9] at HN9 ⊢
  have HN := HN9
  clear hx9 HN9 hl
  rw [rounds_succ]
  have hd1 : Blk x1 db (dmaV bb ub ⟨st, 1, desc, fet, buf, wai⟩) 97 := (HN.out.be.block _ H.out.lt).trans H.out
  have c0 : x1.cell? ⟨db, 0, none⟩ = some (.pointer (some ⟨bb, 0, none⟩)) := hd1.cell 0
  have HC := hid_of (HG1.out x1 HN.out.be)
  clear hd1
  go_wp2_with fail
  refine HC.out.mono ?_
  rintro e v1 ⟨rfl, hv⟩
  have HM : Hid (NR w v1 w.heap.size (w.heap.size + 1) #[.int .u32 r0, .int .u32 0, .int .u32 0, .int .u32 0]) := HN.out.below hv
  clear HC HN hv c0
  obtain ⟨u1, hu, hl⟩ := HM.out.ha.out
  have HN9 : Hid (NR w (put u1 (w.heap.size + 1) #[.int .u32 r0, .int .u32 r1, .int .u32 0, .int .u32 0] 99) w.heap.size (w.heap.size + 1) #[.int .u32 r0, .int .u32 r1, .int .u32 0, .int .u32 0]) := by
    have := HM.out.arr #[.int .u32 r0, .int .u32 r1, .int .u32 0, .int .u32 0]
    rw [hu, put_put] at this
    exact this
  clear HM
  subst hu
  go_wp2_with fail
  obtain ⟨x2, hx9⟩ : ∃ x, put u1 (w.heap.size + 1) #[.int .u32 r0, .int .u32 r1, .int .u32 0, .int .u32 0] 99 = x := ⟨_, rfl⟩
  rw [hx9] at HN9 ⊢
  have HN := HN9
  clear hx9 HN9 hl
  rw [rounds_succ]
  have hd2 : Blk x2 db (dmaV bb ub ⟨st, 1, desc, fet, buf, wai⟩) 97 := (HN.out.be.block _ H.out.lt).trans H.out
  have c0 : x2.cell? ⟨db, 0, none⟩ = some (.pointer (some ⟨bb, 0, none⟩)) := hd2.cell 0
  have HC := hid_of (HG2.out x2 HN.out.be)
  clear hd2
  go_wp2_with fail
  refine HC.out.mono ?_
  rintro e v2 ⟨rfl, hv⟩
  have HM : Hid (NR w v2 w.heap.size (w.heap.size + 1) #[.int .u32 r0, .int .u32 r1, .int .u32 0, .int .u32 0]) := HN.out.below hv
  clear HC HN hv c0
  obtain ⟨u2, hu, hl⟩ := HM.out.ha.out
  have HN9 : Hid (NR w (put u2 (w.heap.size + 1) #[.int .u32 r0, .int .u32 r1, .int .u32 r2, .int .u32 0] 99) w.heap.size (w.heap.size + 1) #[.int .u32 r0, .int .u32 r1, .int .u32 r2, .int .u32 0]) := by
    have := HM.out.arr #[.int .u32 r0, .int .u32 r1, .int .u32 r2, .int .u32 0]
    rw [hu, put_put] at this
    exact this
  clear HM
  subst hu
  go_wp2_with fail
  obtain ⟨x3, hx9⟩ : ∃ x, put u2 (w.heap.size + 1) #[.int .u32 r0, .int .u32 r1, .int .u32 r2, .int .u32 0] 99 = x := ⟨_, rfl⟩
  rw [hx9] at HN9 ⊢
  have HN := HN9
  clear hx9 HN9 hl
  rw [rounds_succ]
  have hd3 : Blk x3 db (dmaV bb ub ⟨st, 1, desc, fet, buf, wai⟩) 97 := (HN.out.be.block _ H.out.lt).trans H.out
  have c0 : x3.cell? ⟨db, 0, none⟩ = some (.pointer (some ⟨bb, 0, none⟩)) := hd3.cell 0
  have HC := hid_of (HG3.out x3 HN.out.be)
  clear hd3
  go_wp2_with fail
  refine HC.out.mono ?_
  rintro e v3 ⟨rfl, hv⟩
  have HM : Hid (NR w v3 w.heap.size (w.heap.size + 1) #[.int .u32 r0, .int .u32 r1, .int .u32 r2, .int .u32 0]) := HN.out.below hv
  clear HC HN hv c0
  obtain ⟨u3, hu, hl⟩ := HM.out.ha.out
  have HN9 : Hid (NR w (put u3 (w.heap.size + 1) #[.int .u32 r0, .int .u32 r1, .int .u32 r2, .int .u32 r3] 99) w.heap.size (w.heap.size + 1) #[.int .u32 r0, .int .u32 r1, .int .u32 r2, .int .u32 r3]) := by
    have := HM.out.arr #[.int .u32 r0, .int .u32 r1, .int .u32 r2, .int .u32 r3]
    rw [hu, put_put] at this
    exact this
  clear HM
  subst hu
  go_wp2_with fail
  obtain ⟨x4, hx9⟩ : ∃ x, put u3 (w.heap.size + 1) #[.int .u32 r0, .int .u32 r1, .int .u32 r2, .int .u32 r3] 99 = x := ⟨_, rfl⟩
  rw [hx9] at HN9 ⊢
  have HN := HN9
  clear hx9 HN9 hl
  rw [rounds_succ]
  go_upto_region 9 with fail
  have a0 : x4.cell? ⟨w.heap.size + 1, 0, none⟩ = some (.int .u32 r0) := HN.out.ha.cell 0
  have a1 : x4.cell? ⟨w.heap.size + 1, 1, none⟩ = some (.int .u32 r1) := HN.out.ha.cell 1
  have a2 : x4.cell? ⟨w.heap.size + 1, 2, none⟩ = some (.int .u32 r2) := HN.out.ha.cell 2
  have a3 : x4.cell? ⟨w.heap.size + 1, 3, none⟩ = some (.int .u32 r3) := HN.out.ha.cell 3
  go_quiet (fail)
  rename_i nq
  go_upto_region 10 with fail
  have HN5 : Hid (NR w (x4.drewN nq) w.heap.size (w.heap.size + 1) #[.int .u32 r0, .int .u32 r1, .int .u32 r2, .int .u32 r3]) := HN.out.drewN nq
  obtain ⟨x5, hx5⟩ : ∃ x5, x4.drewN nq = x5 := ⟨_, rfl⟩
  rw [hx5] at HN5 ⊢
  clear hx5 HN a0 a1 a2 a3
  have hd5 : Blk x5 db (dmaV bb ub ⟨st, 1, desc, fet, buf, wai⟩) 97 := (HN5.out.be.block _ H.out.lt).trans H.out
  have c0 : x5.cell? ⟨db, 0, none⟩ = some (.pointer (some ⟨bb, 0, none⟩)) := hd5.cell 0
  have HC := hid_of (HG4.out x5 HN5.out.be)
  clear hd5
  refine wp_region_list ?_
  go_wp2_with fail
  refine HC.out.mono ?_
  rintro e x6 ⟨rfl, hv⟩
  have HN6 : Hid (NR w x6 w.heap.size (w.heap.size + 1) #[.int .u32 r0, .int .u32 r1, .int .u32 r2, .int .u32 r3]) := HN5.out.below hv
  clear HC HN5 hv c0
  have HCC : Hid (Calls Try.prog 45 #[.slice (some ⟨w.heap.size + 1, 0, none⟩) 3 4] x6 fun e w' => e = .returned (.int .u32 cr) ∧ w' = x6) := by
    rw [← HCR.out]
    exact crc_any (w.heap.size + 1) 4 r0 r1 r2 HW.out.1 HW.out.2.1 HW.out.2.2 x6 (HN6.out.ha.cell 0) (HN6.out.ha.cell 1) (HN6.out.ha.cell 2)
  have HD6 : Hid (Blk x6 db (dmaV bb ub ⟨st, 1, desc, fet, buf, wai⟩) 97) := (HN6.out.be.block _ H.out.lt).trans H.out
  go_upto_region 12 with fail
  refine wp_region_list ?_
  go_wp2_with fail
  refine HCC.out.mono ?_
  rintro e x7 ⟨rfl, hx7⟩
  obtain rfl := hx7.symm
  clear HCC hx7
  have c0 : x6.cell? ⟨db, 0, none⟩ = some (.pointer (some ⟨bb, 0, none⟩)) := HD6.out.cell 0
  have HC := hid_of (HG5.out x6 HN6.out.be)
  go_upto_region 14 with fail
  refine wp_region_list ?_
  go_wp2_with fail
  refine HC.out.mono ?_
  rintro e x8 ⟨rfl, hv⟩
  have HN8 : Hid (NR w x8 w.heap.size (w.heap.size + 1) #[.int .u32 r0, .int .u32 r1, .int .u32 r2, .int .u32 r3]) := HN6.out.below hv
  clear HC HN6 hv c0 HD6
  have HN6 := HN8
  clear HN8
  have HD6 : Hid (Blk x8 db (dmaV bb ub ⟨st, 1, desc, fet, buf, wai⟩) 97) := (HN6.out.be.block _ H.out.lt).trans H.out
  have c3 : x8.cell? ⟨db, 3, none⟩ = some (.int .u8 1) := HD6.out.cell 3
  go_upto_region 11 with fail
  clear c3
  obtain ⟨u8, hu8, hl8⟩ := HD6.out.out
  have HF8 : Hid (Fr (fun k => k = db) w (put u8 db (dmaV bb ub ⟨2, 1, desc, fet, buf, wai⟩) 97) ∧ Blk (put u8 db (dmaV bb ub ⟨2, 1, desc, fet, buf, wai⟩) 97) w.heap.size #[.bool false, .int .u32 0, .int .u32 0] 64) := by
    have f2 := (Fr.of_below (K := fun k => k = db) HN6.out.be).put (b := db) (fun _ => rfl) (dmaV bb ub ⟨2, 1, desc, fet, buf, wai⟩) 97
    have h2 := HN6.out.hr.put_ne (b := db) (cs := dmaV bb ub ⟨2, 1, desc, fet, buf, wai⟩) (T := 97) (HN6.out.hr.neT HD6.out (by decide))
    rw [hu8, put_put] at f2 h2
    exact ⟨f2, h2⟩
  have hu8' : x8 = put u8 db #[.pointer (some ⟨bb, 0, none⟩), .pointer (some ⟨ub, 0, none⟩), .int .u8 st, .int .u8 1, .int .u32 desc, .int .i64 ((fet : Nat) : Int), .int .u32 buf, .bool wai] 97 := hu8
  have hnr : w.heap.size ≠ db := HN6.out.hr.neT HD6.out (by decide)
  have HLD : Hid (db < w.heap.size) := H.out.lt
  clear HN6 HD6 hu8 HG0 HG1 HG2 HG3 HG4 HG5 H
  subst hu8'
  go_upto_region 20 with fail
  have HD8 : Hid (Blk (put u8 db #[.pointer (some ⟨bb, 0, none⟩), .pointer (some ⟨ub, 0, none⟩), .int .u8 2, .int .u8 1, .int .u32 desc, .int .i64 ((fet : Nat) : Int), .int .u32 buf, .bool wai] 97) db (dmaV bb ub ⟨2, 1, desc, fet, buf, wai⟩) 97) := Blk.put_same hl8
  obtain ⟨x9, hx9⟩ : ∃ x9, put u8 db #[.pointer (some ⟨bb, 0, none⟩), .pointer (some ⟨ub, 0, none⟩), .int .u8 2, .int .u8 1, .int .u32 desc, .int .i64 ((fet : Nat) : Int), .int .u32 buf, .bool wai] 97 = x9 := ⟨_, rfl⟩
  have HF9 : Hid (Fr (fun k => k = db) w x9 ∧ Blk x9 w.heap.size #[.bool false, .int .u32 0, .int .u32 0] 64) := by rw [← hx9]; exact HF8.out
  rw [hx9] at HD8 ⊢
  clear hx9 HF8 hl8
  obtain ⟨u9, hu9, hl9⟩ := HF9.out.2.out
  rw [hu9]
  go_wp2_with fail
  rw [← hu9]
  refine ⟨rfl, _, results_row_tmp2 (fn := Try.f72) (p := 2) (t := 3) rfl _ _ w.heap.size 64 _ (0, 0) _ (.bool false) (by rfl) HF9.out.2 Try.underlying64 rfl (by rw [size64]; rfl) rfl, ?_⟩
  exact ⟨rfl, HD8.out, HFIN.out _ HF9.out.1⟩
theorem next_any (db bb cb ub : Nat) (fv : Value) (D : DD) (hD : D.Ok) (B : BD) (hB : B.Ok) (w : World) (hd : Blk w db (dmaV bb ub D) 97) (hb : BR w bb cb fv B) :
    Calls Try.prog 72 #[.pointer (some ⟨db, 0, none⟩)] w fun e w' => e = .returned (.tuple #[.agg #[.bool (nexF D B).2.w, .int .u32 (nexF D B).2.a, .int .u32 (nexF D B).2.d], .bool (nexF D B).2.ok]) ∧ Blk w' db (dmaV bb ub (nexF D B).1) 97 ∧ BR w' bb cb fv B ∧ Fr (fun k => k = db ∨ k = cb) w w' := by
  have h0 := hD.ph
  have h1 := hD.fet
  obtain ⟨st, ph, desc, fet, buf, wai⟩ := D
  simp only at h0 h1
  by_cases hp : ph = 0
  · subst hp
    exact nex_f db bb cb ub fv st desc fet h1 buf wai B w hd hb
  · have h12 : ph = 1 ∨ ph = 2 := by omega
    cases hc : (crcF (B.get 49) (B.get 50) (B.get 51) != B.get 52)
    · by_cases hk : B.get 51 > 16
      · have e : nexF ⟨st, ph, desc, fet, buf, wai⟩ B = (⟨3, ph, desc, fet, buf, wai⟩, noRQ) := by
          unfold nexF badF
          rw [if_neg hp, if_pos (by rw [hc, decide_eq_true hk]; rfl)]
        rw [e]
        exact nex_k db bb cb ub fv st ph desc fet buf wai B hB h12 hc hk w hd hb
      · have hbad : ¬ badF B = true := by unfold badF; rw [hc, decide_eq_false hk]; decide
        cases hi : (B.get 53 != B.get 54)
        · have hi' : ¬ (B.get 53 != B.get 54) = true := by rw [hi]; decide
          rcases h12 with rfl | rfl
          · by_cases hx : B.get 53 < B.get 51
            · have e : nexF ⟨st, 1, desc, fet, buf, wai⟩ B = (⟨st, 1, desc, fet, buf, wai⟩, ⟨true, false, (B.get 49 + 4 * B.get 53) % 4294967296, 0⟩) := by
                unfold nexF
                rw [if_neg hp, if_neg hbad, if_neg hi', if_neg (show ¬ (1 : Int) = 2 by decide), if_pos hx]
              rw [e]
              exact nex_r db bb cb ub fv st desc fet buf wai B hB hc hk hi hx w hd hb
            · have e : nexF ⟨st, 1, desc, fet, buf, wai⟩ B = (⟨2, 1, desc, fet, buf, wai⟩, noRQ) := by
                unfold nexF
                rw [if_neg hp, if_neg hbad, if_neg hi', if_neg (show ¬ (1 : Int) = 2 by decide), if_neg hx]
              rw [e]
              exact nex_d db bb cb ub fv st desc fet buf wai B hB hc hk hi hx w hd hb
          · have e : nexF ⟨st, 2, desc, fet, buf, wai⟩ B = (⟨st, 2, desc, fet, buf, wai⟩, ⟨true, true, (B.get 50 + 4 * B.get 53) % 4294967296, buf⟩) := by
              unfold nexF
              rw [if_neg hp, if_neg hbad, if_neg hi', if_pos rfl]
            rw [e]
            exact nex_w db bb cb ub fv st desc fet buf wai B hB hc hk hi w hd hb
        · have e : nexF ⟨st, ph, desc, fet, buf, wai⟩ B = (⟨5, ph, desc, fet, buf, wai⟩, noRQ) := by
            unfold nexF
            rw [if_neg hp, if_neg hbad, if_pos hi]
          rw [e]
          exact nex_i db bb cb ub fv st ph desc fet buf wai B hB h12 hc hk hi w hd hb
    · have e : nexF ⟨st, ph, desc, fet, buf, wai⟩ B = (⟨3, ph, desc, fet, buf, wai⟩, noRQ) := by
        unfold nexF badF
        rw [if_neg hp, if_pos (by rw [hc]; rfl)]
      rw [e]
      exact nex_c db bb cb ub fv st ph desc fet buf wai B hB h12 hc w hd hb
end Go.Proofs.Qxb6500749a
