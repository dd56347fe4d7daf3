import Derived.Test.Qxb6500750aDoorFi2
import Derived.Test.Qxb6500750aDoorOnTa
namespace Go.Proofs.Qxb6500750aDoor
open Go.RowKit
attribute [local go_sem] put_size put_cell_same put_cell_ne put_frozen_same put_frozen_ne put_setCell_same put_setCell_ne put_drew
attribute [local go_sem] drewN_setCell drewN_alloc drewN_put upd_same upd_upd
theorem obs_okF (ob : ObsD) : (encOb ob).size = 30 ∧ (encOb ob).all (·.oneCell') = true := ⟨encO_size _ _ _ _, encO_one _ _ _ _⟩
theorem cut_fun28 {P : Program} {c : Code} {K Km : Act → World → Prop} {Q : Exit → Act → World → Prop} {a : Act} {w : World} (hrest : ∀ a w, Km a w → K a w) (hfirst : c.wp P (Exit.then Km Q) a w) : c.wp P (Exit.then K Q) a w :=
  Code.wp_mono (fun e a' w' h => by cases e <;> first | exact hrest _ _ h | exact h) hfirst
theorem Tryd.info38 : (Tryd.prog.info? 38).map (fun i => (i.zero, i.size, i.bytes)) = some (some (.agg #[.bool false, .int .u32 0, .int .u8 0, .int .u32 0, .int .u8 0, .int .u8 0]), 6, 20) := by kernel_rfl
theorem fl_load_rowF {P : Program} {a : Act} {o : Oper} {ω : World} (ty : TypeId) (x : Operand) (ho : o.op = .load ty x) (q : Value) (hx : a.eval x = q) (v : Value) (h : (Instr.loadAt ty q).run P ω = .ok v ω) : (execOp a.eval o).run P ω = .ok (.value v) ω := by
  unfold execOp
  simp only [ho, hx, Sem.run_bind, h, Result.andThen_ok, Sem.run_pure]
theorem bitsV_no {f : Nat → Bool} (h : ∀ t, t < 7 → f t = false) : bitsV f = 0 := by
  unfold bitsV b2i
  rw [h 0 (by omega), h 1 (by omega), h 2 (by omega), h 3 (by omega), h 4 (by omega), h 5 (by omega), h 6 (by omega)]; rfl
theorem obs_cell {w : World} {qb : Nat} {ob : ObsD} (h : Blk w qb (encOb ob) 43) (j : Nat) : w.cell? ⟨qb, 3 + j, none⟩ = (encR ob.t)[j]? := by
  rw [h.cell]
  unfold encOb encO
  rw [Array.getElem?_append_right (by simp)]
  simp
def grV (ρ : RepD) : Array Value := #[.int .i8 (ρ.g 0), .int .i8 (ρ.g 1), .int .i8 (ρ.g 2), .int .i8 (ρ.g 3), .int .i8 (ρ.g 4), .int .i8 (ρ.g 5), .int .i8 (ρ.g 6)]
theorem index_gr (ρ : RepD) : ∀ (k : Nat) (_ : k < 7) (w : World), (Instr.index 34 (.agg (grV ρ)) (.int .i64 (k : Nat))).run Tryd.prog w = .ok (.int .i8 (ρ.g k)) w
  | 0, _, _ => by kernel_rfl
  | 1, _, _ => by kernel_rfl
  | 2, _, _ => by kernel_rfl
  | 3, _, _ => by kernel_rfl
  | 4, _, _ => by kernel_rfl
  | 5, _, _ => by kernel_rfl
  | 6, _, _ => by kernel_rfl
  | _ + 7, h, _ => absurd h (by omega)
theorem obs_gr {w : World} {qb : Nat} {ob : ObsD} (h : Blk w qb (encOb ob) 43) : w.rangeAt qb 3 (grV ob.t).toList := by
  intro j v hv
  have hj : j < 7 := (List.getElem?_eq_some_iff.1 hv).1
  rw [obs_cell h, rg_g _ _ hj]
  obtain rfl | rfl | rfl | rfl | rfl | rfl | rfl : j = 0 ∨ j = 1 ∨ j = 2 ∨ j = 3 ∨ j = 4 ∨ j = 5 ∨ j = 6 := by omega
  all_goals exact hv
theorem obs_rets {w : World} {qb : Nat} {ob : ObsD} (h : Blk w qb (encOb ob) 43) : w.rangeAt qb 10 (retsV ob.t).toList := by
  intro j v hv
  have e : 10 + j = 3 + (7 + j) := by omega
  rw [e, obs_cell h]
  have hb : Blk ({ w with heap := #[.cells (encR ob.t) 41 (0, 0)] }) 0 (encR ob.t) 41 := rfl
  rw [← hb.cell]
  exact rets_range hb j v hv
theorem FI.rts {own : Nat → Nat} {w : World} {L : FB} {av ev : Nat → Value} {σ : SS} {rt rt' : Nat → Int} {acc : Nat → List Req} {exp : Nat → List Ret} {mem : Int → Int} (h : FI own w L av ev σ rt acc exp mem) (e : ∀ m, m < 3 → rt m = rt' m) : FI own w L av ev σ rt' acc exp mem := by
  have hr : (row 3 fun m => Value.int .i64 (rt m)) = row 3 fun m => .int .i64 (rt' m) := row_congr _ _ _ fun j hj => by rw [e j hj]
  exact { h with tb := by rw [← hr]; exact h.tb }
theorem eq38F (x : Ret) (w : World) : (Op.equalIn 10000 38 (.agg #[.bool x.va, .int .u32 x.sq, .int .u8 x.st, .int .u32 x.da, .int .u8 x.re, .int .u8 x.ca]) (.agg #[.bool x.va, .int .u32 x.sq, .int .u8 x.st, .int .u32 x.da, .int .u8 x.re, .int .u8 x.ca])).run Tryd.prog w = .ok true w := by
  rw [show (10000 : Nat) = 9999 + 1 from rfl, run_equalIn_struct _ 9999 38 _ _ (by kernel_rfl) (by kernel_rfl)]
  simp [Op.eqFields, go_sem]
def fr28G (L : FB) (o : OpD) (ob qb : Nat) (OB G : Array Value) (k m n rq vb : Nat) (u : Nat → Value) : Act :=
  { tmps := #[.agg #[.int .u8 3, .int .u32 o.a, .int .u32 o.b, .int .u32 o.c], .pointer (some ⟨L.rb, 0, none⟩), .pointer (some ⟨L.ab, 0, none⟩), .pointer (some ⟨L.eb, 0, none⟩), .pointer (some ⟨L.mb, 0, none⟩), .pointer (some ⟨L.tb, 0, none⟩), .pointer (some ⟨ob, 0, none⟩), .bool false, .pointer (some ⟨qb, 0, none⟩), undef, .int .i8 (m : Nat), .int .i64 (n : Nat), .pointer (some ⟨rq, 0, none⟩), .pointer (some ⟨vb, 0, none⟩), undef, undef, .pointer (some ⟨L.rg, 0, none⟩), .agg #[.int .u8 3, .int .u32 o.a, .int .u32 o.b, .int .u32 o.c], .agg OB, .pointer (some ⟨qb, 1, none⟩), .int .u8 0, .bool true, .bool true, .pointer (some ⟨ob, 0, none⟩), .int .u8 3, .bool false, .bool false, .pointer (some ⟨ob, 0, none⟩), .int .u8 3, .bool false, .bool false, .bool false, .bool false, undef, undef, undef, .bool false, undef, undef, undef, undef, undef, undef, undef, undef, undef, undef, undef, undef, undef, undef, undef, undef, undef, .pointer (some ⟨ob, 0, none⟩), .int .u8 3, .bool false, .pointer (some ⟨qb, 3, none⟩), .pointer (some ⟨qb, 28, none⟩), .int .u8 0, .bool false, .bool false, .pointer (some ⟨qb, 3, none⟩), .pointer (some ⟨qb, 29, none⟩), .int .u8 0, .bool false, .bool false, .pointer (some ⟨qb, 3, none⟩), .pointer (some ⟨qb, 3, none⟩), .agg G, .int .i64 (k : Nat), u 71, u 72, u 73, u 74, u 75, u 76, u 77, u 78, u 79, u 80, u 81, u 82, u 83, u 84, u 85, u 86, u 87, u 88, u 89, u 90, u 91, u 92, u 93, u 94, u 95, u 96, u 97, u 98, u 99, u 100, u 101, u 102, u 103, u 104, u 105, u 106, u 107, u 108, u 109, u 110, u 111, u 112, u 113, u 114, u 115, u 116, u 117, u 118, u 119, u 120, u 121, undef, undef, undef, undef, undef, undef, undef, undef, undef, undef, undef, undef, undef, undef, undef, undef, undef, undef, undef, undef, undef, undef, undef, undef, undef, undef, undef, undef, undef, undef, undef, undef, undef, undef, undef, undef], defers := [] }
set_option maxRecDepth 100000 in
set_option maxHeartbeats 4000000 in
theorem play_tick (own : Nat → Nat) (w : World) (L : FB) (av ev : Nat → Value) (σ : SS) (acc : Nat → List Req) (exp : Nat → List Ret) (mem : Int → Int) (o : OpD) (N : Int) (A : Nat) (h : FI own w L av ev σ (fun m => (σ.x.mp m).rt) acc exp mem) (hi : XInv N A σ) (hN : 0 ≤ N ∧ N < 3000000) (hA : A + 14 < 1000000000) (ho : OpOK o) (hF : FF σ acc exp mem) (hk3 : o.k = 3) :
    Calls Tryd.prog 28 #[.agg (opC o), .pointer (some ⟨L.rb, 0, none⟩), .pointer (some ⟨L.ab, 0, none⟩), .pointer (some ⟨L.eb, 0, none⟩), .pointer (some ⟨L.mb, 0, none⟩), .pointer (some ⟨L.tb, 0, none⟩)] w fun e w' => e = .returned (.bool true) ∧ ∃ own' av' ev' acc' exp' mem', FI own' w' L av' ev' (stepS σ o) (fun m => ((stepS σ o).x.mp m).rt) acc' exp' mem' ∧ FF (stepS σ o) acc' exp' mem' ∧ Ext own own' SF w w' := by
  have HI := hid_of hi
  have HK3 := hid_of hk3
  clear hk3
  obtain ⟨OB, hOB⟩ : ∃ OB, encOb (stepO σ o) = OB := ⟨_, rfl⟩
  have HOB : Hid (OB.size = 30 ∧ OB.all (·.oneCell') = true) := by rw [← hOB]; exact obs_okF _
  have hcr := h.rb.cell 0
  have hlr := h.rb.lt
  have hst : StepOK σ o := hi.stepOK ho hA (by omega)
  have hx0 : Ext own (mark own w.heap.size 50) (fun _ => False) w (w.alloc (.cells #[.int .u8 o.k, .int .u32 o.a, .int .u32 o.b, .int .u32 o.c] 31)) := Ext.alloc own _ w _ 50
  have h0 := h.ext hx0 (fun _ _ h => h)
  have HSTEP := hid_of (step_any _ L.rg L.xb L.pbs σ o hst _ h0.rr h0.glb)
  have H0 := hid_of h0
  have HX0 := hid_of hx0
  rw [hOB] at HSTEP
  have HOBE := hid_of hOB
  clear h hst h0 hx0 hOB
  unfold opC at *
  go_enter Tryd.func28, Tryd.ntmps28
  go_wp2_with fail
  refine HSTEP.out.mono ?_
  rintro e w1 ⟨rfl, own2, hrr, hx1⟩
  have h1 := H0.out.moved hx1 (fun k h3 h4 h5 => by omega) hrr
  have hb1 : Blk w1 w.heap.size #[.int .u8 o.k, .int .u32 o.a, .int .u32 o.b, .int .u32 o.c] 31 := (hx1.block _ (by simp) (by rw [mark_ge (Nat.le_refl _)]; omega)).trans (Blk.new w _ 31)
  have hxx : Ext own own2 (fun k => k ≤ 6 ∨ k = 49) w w1 := (HX0.out.mono (fun _ h => h.elim)).trans hx1
  have H1 := hid_of h1
  have HXX := hid_of hxx
  have HB1 := hid_of hb1
  clear HSTEP H0 HX0 hrr hx1 h1 hxx hb1
  go_upto_region 2 with ((with_reducible show wpList _ _ _ ({ dst := none, op := Op.store 43 (Operand.tmp 8) (Operand.tmp 18), type := _, pos := _, after := _, guard := _ } :: _) _ _); refine wpList_store_row (by rfl) 43 (.tmp 8) (.tmp 18) (by rfl) w1.heap.size OB (by rfl) (by rfl) 43 _ (Blk.new _ _ _) (by rw [Tryd.size43, HOB.out.1]) (by rw [HOB.out.1]; rfl) HOB.out.2 ?_; rw [World.setRow_alloc_new])
  have hbe : Below w1.heap.size w1 (w1.alloc (.cells OB 43)) := (Below.refl _ _).alloc (Nat.le_refl _) _
  have hxa : Ext own2 (mark own2 w1.heap.size 50) (fun k => k ≤ 6 ∨ k = 49) w1 (w1.alloc (.cells OB 43)) := Ext.alloc own2 _ w1 _ 50
  have h2 := H1.out.ext (Ext.alloc own2 (fun _ => False) w1 (.cells OB 43) 50) (fun _ _ h => h)
  have hxw : Ext own (mark own2 w1.heap.size 50) (fun k => k ≤ 6 ∨ k = 49) w (w1.alloc (.cells OB 43)) := HXX.out.trans hxa
  have hoq : mark own2 w1.heap.size 50 w1.heap.size = 50 := mark_ge (Nat.le_refl _)
  have hbo : Blk (w1.alloc (.cells OB 43)) w.heap.size #[.int .u8 o.k, .int .u32 o.a, .int .u32 o.b, .int .u32 o.c] 31 := HB1.out.alloc _
  have hbq : Blk (w1.alloc (.cells OB 43)) w1.heap.size OB 43 := Blk.new _ _ _
  have hq1 : w.heap.size < w1.heap.size := HB1.out.lt
  clear HB1 H1 HXX hbe hxa
  generalize mark own2 w1.heap.size 50 = own3 at *
  generalize w1.heap.size = qb at *
  generalize w1.alloc (.cells OB 43) = W at *
  have H2 := hid_of h2
  have HXW := hid_of hxw
  have HBO := hid_of hbo
  have HBQ := hid_of hbq
  have ck : W.cell? ⟨w.heap.size, 0, none⟩ = some (.int .u8 o.k) := hbo.cell 0
  have cis : W.cell? ⟨qb, 1, none⟩ = some (.int .u8 (stepO σ o).is) := by
    rw [hbq.cell, ← HOBE.out]; exact og_1 _ _ _ _
  have crf : W.cell? ⟨qb, 0, none⟩ = some (.bool (stepO σ o).rf) := by
    rw [hbq.cell, ← HOBE.out]; exact og_0 _ _ _ _
  clear h2 hxw hbo hbq hcr hlr hi
  have hk3 := HK3.out
  have hob : (stepO σ o).t = (tickF o.a σ).2 ∧ (stepO σ o).is = 0 := by unfold stepO; rw [if_neg (by omega), if_neg (by omega), if_pos hk3]; exact ⟨rfl, rfl⟩
  have hst : stepS σ o = (tickF o.a σ).1 := by unfold stepS; rw [if_neg (by omega), if_neg (by omega), if_neg (by omega), if_pos hk3]
  obtain ⟨hFF, hrsp, hgr, hret⟩ := hF.tick HI.out o.a
  have HACC : Hid (∀ m, m < 3 → (acc m).length < 3000000) := fun m hm => by have := hF.iss m hm; have := HI.out.cnt m hm; omega
  rw [hob.2] at cis
  have c28 : W.cell? ⟨qb, 28, none⟩ = some (.int .u8 0) := by
    have := obs_cell (w := W) (qb := qb) (ob := stepO σ o) (by rw [HOBE.out]; exact HBQ.out) 25
    rw [rg_rs, hob.1, bitsV_no (fun t ht => (hrsp t ht).1)] at this; exact this
  have c29 : W.cell? ⟨qb, 29, none⟩ = some (.int .u8 0) := by
    have := obs_cell (w := W) (qb := qb) (ob := stepO σ o) (by rw [HOBE.out]; exact HBQ.out) 26
    rw [rg_rp, hob.1, bitsV_no (fun t ht => (hrsp t ht).2)] at this; exact this
  have hgrV : W.rangeAt qb 3 (grV (tickF o.a σ).2).toList := by rw [← hob.1]; exact obs_gr (by rw [HOBE.out]; exact HBQ.out)
  have HOB1 := hid_of hob.1
  rw [hst] at H2
  obtain ⟨ρ, hρ⟩ : ∃ ρ, (tickF o.a σ).2 = ρ := ⟨_, rfl⟩
  obtain ⟨σ', hσ'⟩ : ∃ σ', (tickF o.a σ).1 = σ' := ⟨_, rfl⟩
  rw [hρ, hσ'] at hFF hret
  rw [hρ] at hgr hgrV HOB1
  rw [hσ'] at H2 hst
  have HSTP := hid_of hst
  have HFF := hid_of hFF
  have HGR := hid_of hgr
  have HRET := hid_of hret
  have HGV := hid_of hgrV
  clear hFF hrsp hgr hret hob hst hgrV hρ hσ' hF crf
  rw [hk3] at ck
  go_upto_region 8 with fail
  refine wp_region_list ?_
  go_wp2_with ((with_reducible show wpList _ _ _ ({ dst := _, op := Op.load 34 _, type := _, pos := _, after := _, guard := _ } :: _) _ _); refine wpList_load_mid rfl 34 (.tmp 68) rfl qb 3 rfl (grV ρ).toList _ HGV.out (by rfl) (by rfl) (by rfl) ?_; rw [Array.toArray_toList])
  obtain ⟨G, hG⟩ : ∃ G, grV ρ = G := ⟨_, rfl⟩
  have HIX : Hid (∀ (k : Nat) (_ : k < 7) (w : World), (Instr.index 34 (.agg G) (.int .i64 (k : Nat))).run Tryd.prog w = .ok (.int .i8 (ρ.g k)) w) := by rw [← hG]; exact index_gr ρ
  rw [hG]
  clear hG HGV c28 c29 ck cis hk3 hq1
  go_loopw [70] (fun i wr => ∃ k : Nat, k ≤ 7 ∧ i = .int .i64 k ∧ ∃ own' ev', Hid (FI own' wr L av ev' σ' (fun m => (σ.x.mp m).rt) acc (ffN acc ρ ⟨exp, mem⟩ k).exp (ffN acc ρ ⟨exp, mem⟩ k).mem ∧ Ext own3 own' SF W wr)) (fun i _ => 7 - (intOf i).toNat)
  case atStart => exact ⟨0, by omega, rfl, own3, ev, H2.out, Ext.refl _ _ _⟩
  case round =>
    obtain ⟨k, hk, rfl, own4, ev4, hJ⟩ := hrel
    by_cases hk7 : k < 7
    · have hmeas : Hid (7 - (intOf (.int .i64 ((k : Nat) + 1))).toNat < 7 - (intOf (.int .i64 (k : Nat))).toNat) := by simp [intOf, Hid]; omega
      have hix := HIX.out k hk7
      have hki : ((k : Nat) : Int) < 7 := by omega
      rcases HGR.out k hk7 with hg | ⟨m, hm3, hg, hlen⟩
      · have HN : Hid (FI own4 wr L av ev4 σ' (fun m => (σ.x.mp m).rt) acc (ffN acc ρ ⟨exp, mem⟩ (k + 1)).exp (ffN acc ρ ⟨exp, mem⟩ (k + 1)).mem ∧ Ext own3 own4 SF W wr) := by
          have e : ffN acc ρ ⟨exp, mem⟩ (k + 1) = ffN acc ρ ⟨exp, mem⟩ k := by show ffR acc ρ k _ = _; unfold ffR; rw [if_pos hg]
          unfold Hid; rw [e]; exact hJ.out
        rw [hg] at hix
        clear hJ hg
        go_wp2_with fail
        go_roundw
        case rel => exact ⟨k + 1, hk7, by go_num, own4, ev4, HN⟩
        case measure => exact hmeas.out
      · have hFI := hJ.out.1
        obtain ⟨ex, me, hE⟩ : ∃ ex me, ffN acc ρ ⟨exp, mem⟩ k = ⟨ex, me⟩ := ⟨_, _, rfl⟩
        rw [hE] at hFI hlen
        have hFI : FI own4 wr L av ev4 σ' (fun m => (σ.x.mp m).rt) acc ex me := hFI
        have hlen : (ex m).length < (acc m).length := hlen
        obtain ⟨n, hn⟩ : ∃ n, (ex m).length = n := ⟨_, rfl⟩
        rw [hn] at hlen
        obtain ⟨r, hr⟩ : ∃ r, (acc m)[n]? = some r := ⟨(acc m)[n], List.getElem?_eq_getElem hlen⟩
        have hadr := hFI.adr m hm3 r (List.mem_of_getElem? hr)
        obtain ⟨ad1, cap1, hev⟩ := (hFI.se m hm3).form'
        rw [hn] at hev
        obtain ⟨b, off, cap, hav, hcap, hbl⟩ := (hFI.sa m hm3).form (by omega)
        have ce : wr.cell? ⟨L.eb, m, none⟩ = some (.slice ad1 n cap1) := by rw [hFI.eb.cell, row_get _ _ _ hm3, hev]
        have ca : wr.cell? ⟨L.ab, m, none⟩ = some (.slice (some ⟨b, off, none⟩) (acc m).length cap) := by rw [hFI.ab.cell, row_get _ _ _ hm3, hav]
        have cl0 := (hFI.sa m hm3).cell hav (n * 3 + 0) (by rw [reqs_len]; omega)
        have cl1 := (hFI.sa m hm3).cell hav (n * 3 + 1) (by rw [reqs_len]; omega)
        have cl2 := (hFI.sa m hm3).cell hav (n * 3 + 2) (by rw [reqs_len]; omega)
        rw [reqs_get _ _ _ r hr (by decide), ← Nat.add_assoc] at cl0 cl1 cl2
        have cl0' : wr.cell? ⟨b, off + n * 3, none⟩ = some (.bool r.w) := cl0
        have cl1' : wr.cell? ⟨b, off + n * 3 + 1, none⟩ = some (.int .u32 r.ad) := cl1
        have cl2' : wr.cell? ⟨b, off + n * 3 + 2, none⟩ = some (.int .u32 r.da) := cl2
        have hmi : ((m : Nat) : Int) < 3 := by omega
        have hnm : (((m : Nat) : Int) == -1) = false := by simp
        have hnl : ((n : Nat) : Int) < ((acc m).length : Nat) := by omega
        have hn3 : n < 3000000 := by have := HACC.out m hm3; omega
        have hwr : ((n : Nat) : Int) % 4294967296 = (n : Nat) := by omega
        rw [hg] at hix
        have HFI := hid_of hFI
        have HHN := hid_of hn
        have HR := hid_of hr
        have HEV := hid_of hev
        have HAV := hid_of hav
        have HEX := hid_of hJ.out.2
        have HG := hid_of hg
        have HE := hid_of hE
        clear hJ hFI hn hr hev hav hg cl0 cl1 cl2 hE hlen hcap
        generalize (acc m).length = la at *
        go_upto_region 14 with fail
        refine wp_region_list ?_
        iterate 18 go_step
        have hbv : Below wr.heap.size wr ((wr.alloc (.cells #[.bool r.w, .int .u32 r.ad, .int .u32 r.da] 91)).alloc (.cells #[.bool true, .int .u32 (n : Nat), .int .u8 0, .int .u32 0, .int .u8 0, .int .u8 0] 38)) := ((Below.refl _ _).alloc (Nat.le_refl _) _).alloc (by simp) _
        have hbrq : Blk ((wr.alloc (.cells #[.bool r.w, .int .u32 r.ad, .int .u32 r.da] 91)).alloc (.cells #[.bool true, .int .u32 (n : Nat), .int .u8 0, .int .u32 0, .int .u8 0, .int .u8 0] 38)) wr.heap.size #[.bool r.w, .int .u32 r.ad, .int .u32 r.da] 91 := (Blk.new wr _ 91).alloc _
        have hbvb : Blk ((wr.alloc (.cells #[.bool r.w, .int .u32 r.ad, .int .u32 r.da] 91)).alloc (.cells #[.bool true, .int .u32 (n : Nat), .int .u8 0, .int .u32 0, .int .u8 0, .int .u8 0] 38)) (wr.heap.size + 1) #[.bool true, .int .u32 (n : Nat), .int .u8 0, .int .u32 0, .int .u8 0, .int .u8 0] 38 := by
          have := Blk.new (wr.alloc (.cells #[.bool r.w, .int .u32 r.ad, .int .u32 r.da] 91)) #[.bool true, .int .u32 (n : Nat), .int .u8 0, .int .u32 0, .int .u8 0, .int .u8 0] 38
          simp at this; exact this
        have HBV := hid_of hbv
        have HBRQ := hid_of hbrq
        have HBVB := hid_of hbvb
        clear ce ca cl0' cl1' cl2' hbv hbrq hbvb hix hnm hwr hnl
        generalize ((wr.alloc (.cells #[.bool r.w, .int .u32 r.ad, .int .u32 r.da] 91)).alloc (.cells #[.bool true, .int .u32 (n : Nat), .int .u8 0, .int .u32 0, .int .u8 0, .int .u8 0] 38)) = V at *
        refine cut_fun28 (Km := fun act wc => ∃ u, act = fr28G L o w.heap.size qb OB G k m n wr.heap.size (wr.heap.size + 1) u ∧ Hid (FI own4 wc L av ev4 σ' (fun m => (σ.x.mp m).rt) acc ex (memR r me) ∧ Blk wc (wr.heap.size + 1) (retL (wantR r n me)).toArray 38 ∧ Ext own4 own4 SF wr wc)) ?rest ?first
        case first =>
          obtain ⟨KR, hKR⟩ : ∃ KR : Act → World → Prop, KR = fun act wc => ∃ u, act = fr28G L o w.heap.size qb OB G k m n wr.heap.size (wr.heap.size + 1) u ∧ Hid (FI own4 wc L av ev4 σ' (fun m => (σ.x.mp m).rt) acc ex (memR r me) ∧ Blk wc (wr.heap.size + 1) (retL (wantR r n me)).toArray 38 ∧ Ext own4 own4 SF wr wc) := ⟨_, rfl⟩
          have HKR : Hid (∀ (act : Act) (wc : World), act = fr28G L o w.heap.size qb OB G k m n wr.heap.size (wr.heap.size + 1) (fun i => act.tmps.getD i undef) → FI own4 wc L av ev4 σ' (fun m => (σ.x.mp m).rt) acc ex (memR r me) → Blk wc (wr.heap.size + 1) (retL (wantR r n me)).toArray 38 → Ext own4 own4 SF wr wc → KR act wc) := fun act wc e h1 h2 h3 => by rw [hKR]; exact ⟨_, e, h1, h2, h3⟩
          rw [← hKR]
          clear hKR
          have cq1 : V.cell? ⟨wr.heap.size, 1, none⟩ = some (.int .u32 r.ad) := HBRQ.out.cell 1
          have HDEC := hid_of (mdecode_any r.ad V (HFI.out.below HBV.out).glb.maps)
          go_upto_region 16 with fail
          refine wp_region_list ?_
          go_wp2_with fail
          refine HDEC.out.mono ?_
          rintro e V2 ⟨rfl, hb2⟩
          have hb2' : Below wr.heap.size wr V2 := HBV.out.trans (hb2.mono HBV.out.size)
          have hF2 := HFI.out.below hb2'
          have hbq2 : Blk V2 wr.heap.size #[.bool r.w, .int .u32 r.ad, .int .u32 r.da] 91 := (hb2.block _ HBRQ.out.lt).trans HBRQ.out
          have hbv2 : Blk V2 (wr.heap.size + 1) #[.bool true, .int .u32 (n : Nat), .int .u8 0, .int .u32 0, .int .u8 0, .int .u8 0] 38 := (hb2.block _ HBVB.out.lt).trans HBVB.out
          have q0 : V2.cell? ⟨wr.heap.size, 0, none⟩ = some (.bool r.w) := hbq2.cell 0
          have q1 : V2.cell? ⟨wr.heap.size, 1, none⟩ = some (.int .u32 r.ad) := hbq2.cell 1
          have q2 : V2.cell? ⟨wr.heap.size, 2, none⟩ = some (.int .u32 r.da) := hbq2.cell 2
          have qm : V2.cell? ⟨L.mb, 0, none⟩ = some (.map (some L.mm)) := hF2.mb.cell 0
          have hlk := run_lookup_words (P := Tryd.prog) hF2.mm.mapB Tryd.underlying87 Tryd.underlying29 zero29 r.ad
          have nb1 : wr.heap.size ≠ wr.heap.size + 1 := by omega
          have nb2 : L.mb ≠ wr.heap.size + 1 := by have := HFI.out.mb.lt; omega
          have htm : r.ad.tmod 4 = r.ad % 4 := Int.tmod_eq_emod_of_nonneg hadr.1
          have HF2 := hid_of hF2
          have HBE2 := hid_of hb2'
          have hrc : ∀ q st da : Int, (retL (retOK q st da)).toArray = #[.bool true, .int .u32 q, .int .u8 st, .int .u32 da, .int .u8 0, .int .u8 0] := fun _ _ _ => rfl
          have HRC := hid_of hrc
          have hD7 := dec_le r.ad
          obtain ⟨D, hDe⟩ : ∃ D, dec r.ad = D := ⟨_, rfl⟩
          rw [hDe] at hD7
          rw [hDe]
          have HDE := hid_of hDe
          have HBV2 := hid_of hbv2
          have HBQ2 := hid_of hbq2
          clear hb2 hb2' hF2 hbq2 cq1 HDEC HBRQ HBVB hrc hDe
          have hbad : ∀ (hb : badA r = true), Hid (∀ (act : Act), act = fr28G L o w.heap.size qb OB G k m n wr.heap.size (wr.heap.size + 1) (fun i => act.tmps.getD i undef) → KR act (put V2 (wr.heap.size + 1) #[.bool true, .int .u32 (n : Nat), .int .u8 2, .int .u32 0, .int .u8 0, .int .u8 0] 38)) := fun hb act e => by
            have hbp := Below.put HBE2.out (Nat.le_succ wr.heap.size) #[.bool true, .int .u32 (n : Nat), .int .u8 2, .int .u32 0, .int .u8 0, .int .u8 0] 38
            refine HKR.out act _ e ?_ ?_ (Ext.of_below hbp)
            · have : memR r me = me := by unfold memR; rw [if_pos hb]
              rw [this]; exact HFI.out.below hbp
            · have : wantR r n me = retOK (n : Nat) 2 0 := by unfold wantR; rw [if_pos hb]
              rw [this, HRC.out]; exact Blk.put_same HBV2.out.lt
          have HBAD := hid_of hbad
          clear hbad
          by_cases hD6 : D = 6
          · have HK := HBAD.out (by unfold badA; rw [HDE.out, hD6]; rfl)
            obtain ⟨V3, rfl, hl3⟩ := hbv2.out
            rw [put_put] at HK
            have hD6' : (((D : Nat) : Int) == 6) = true := by simp; omega
            clear hD6 hlk
            go_wp2_with fail
            exact HK.out _ (by kernel_rfl)
          · have hD6' : (((D : Nat) : Int) == 6) = false := by simp; omega
            cases h4 : r.ad % 4 == 0
            · have h4' : r.ad % 4 ≠ 0 := by simpa using h4
              have h4n : (r.ad % 4 != 0) = true := by simpa using h4
              have HK := HBAD.out (by unfold badA; rw [h4]; simp)
              obtain ⟨V3, rfl, hl3⟩ := hbv2.out
              rw [put_put] at HK
              rw [put_cell_ne _ _ _ _ _ _ _ nb1] at q0 q1 q2
              clear hD6 hlk
              go_wp2_with fail
              exact HK.out _ (by kernel_rfl)
            · have h4' : r.ad % 4 = 0 := by simpa using h4
              have h4n : (r.ad % 4 != 0) = false := by simpa using h4
              have hnb : badA r = false := by unfold badA; rw [h4, HDE.out]; simp; exact hD6
              have HNB := hid_of hnb
              clear HBAD hnb
              cases hw : r.w
              · have HK : Hid (∀ (act : Act), act = fr28G L o w.heap.size qb OB G k m n wr.heap.size (wr.heap.size + 1) (fun i => act.tmps.getD i undef) → KR act (put V2 (wr.heap.size + 1) #[.bool true, .int .u32 (n : Nat), .int .u8 0, .int .u32 (me r.ad), .int .u8 0, .int .u8 0] 38)) := fun act e => by
                  have hbp := Below.put HBE2.out (Nat.le_succ wr.heap.size) #[.bool true, .int .u32 (n : Nat), .int .u8 0, .int .u32 (me r.ad), .int .u8 0, .int .u8 0] 38
                  refine HKR.out act _ e ?_ ?_ (Ext.of_below hbp)
                  · have : memR r me = me := by unfold memR; rw [HNB.out, hw]; rfl
                    rw [this]; exact HFI.out.below hbp
                  · have : wantR r n me = retOK (n : Nat) 0 (me r.ad) := by unfold wantR; rw [HNB.out, hw]; rfl
                    rw [this, HRC.out]; exact Blk.put_same HBV2.out.lt
                rw [hw] at q0
                obtain ⟨V3, rfl, hl3⟩ := hbv2.out
                rw [put_put] at HK
                rw [put_cell_ne _ _ _ _ _ _ _ nb1] at q0 q1 q2
                rw [put_cell_ne _ _ _ _ _ _ _ nb2] at qm
                clear hD6
                go_wp2_with fail
                exact HK.out _ (by kernel_rfl)
              · obtain ⟨o', hup, hkm⟩ := HF2.out.mm.update (P := Tryd.prog) Tryd.underlying87 Tryd.underlying29 r.ad r.da (by rw [HDE.out]; omega) hadr
                have HK : Hid (∀ (act : Act), act = fr28G L o w.heap.size qb OB G k m n wr.heap.size (wr.heap.size + 1) (fun i => act.tmps.getD i undef) → KR act (putO V2 L.mm o')) := fun act e => by
                  obtain ⟨f1, f2⟩ := HF2.out.stored hkm
                  refine HKR.out act _ e ?_ ?_ ((Ext.of_below HBE2.out).trans f2)
                  · have : memR r me = fun x => if x = r.ad then r.da else me x := by unfold memR; rw [HNB.out, hw]; rfl
                    rw [this]; exact f1
                  · have : wantR r n me = retOK (n : Nat) 0 0 := by unfold wantR; rw [HNB.out, hw]; rfl
                    rw [this, HRC.out]
                    exact (putO_heap_ne V2 L.mm _ o' (by have := HFI.out.mm.lt; omega)).trans HBV2.out
                rw [hw] at q0
                clear hD6 hkm hlk hbv2
                go_wp2_with fail
                exact HK.out _ (by kernel_rfl)
        case rest =>
          rintro act w5 ⟨u, rfl, hK⟩
          have hF5 := hK.out.1
          have hB5 := hK.out.2.1
          have hX5 := hK.out.2.2
          obtain ⟨RL, hRL⟩ : ∃ RL, wantR r n me = RL := ⟨_, rfl⟩
          rw [hRL] at hB5
          have hB5 : Blk w5 (wr.heap.size + 1) #[.bool RL.va, .int .u32 RL.sq, .int .u8 RL.st, .int .u32 RL.da, .int .u8 RL.re, .int .u8 RL.ca] 38 := hB5
          have ce5 : w5.cell? ⟨L.eb, m, none⟩ = some (.slice ad1 n cap1) := by rw [hF5.eb.cell, row_get _ _ _ hm3, HEV.out]
          have hS5 := hF5.se m hm3
          rw [HHN.out, HEV.out] at hS5
          have l1 : L.eb < w5.heap.size := hF5.eb.lt
          have nv : L.eb ≠ wr.heap.size + 1 := hF5.eb.ne_of_T hB5 (by decide)
          have hvcs : ∀ ω : World, ω.heap[wr.heap.size + 1]? = w5.heap[wr.heap.size + 1]? → (Instr.loadAt 38 (.pointer (some ⟨wr.heap.size + 1, 0, none⟩))).run Tryd.prog ω = .ok (.agg #[.bool RL.va, .int .u32 RL.sq, .int .u8 RL.st, .int .u32 RL.da, .int .u8 RL.re, .int .u8 RL.ca]) ω := fun ω hω => by
            have q3 : Blk ω (wr.heap.size + 1) #[.bool RL.va, .int .u32 RL.sq, .int .u8 RL.st, .int .u32 RL.da, .int .u8 RL.re, .int .u8 RL.ca] 38 := hω.trans hB5
            simp only [Instr.loadAt, Instr.sureAddr, Sem.run_bind, Sem.run_pure, Result.andThen_ok, run_loadVar_row ω (wr.heap.size + 1) 38 38 _ (0, 0) _ q3 (show Tryd.prog.underlying 38 = some (.struct (Tryd.prog.fieldsOf 38)) by kernel_rfl) rfl (by kernel_rfl)]
          obtain ⟨i0, hinf, hz0, hz1, hz2⟩ := info_parts Tryd.info38
          have HS5 := hid_of hS5
          have HVC := hid_of hvcs
          have HF5 := hid_of hF5
          have HB5 := hid_of hB5
          have HX5 := hid_of hX5
          have HRL := hid_of hRL
          clear hS5 hvcs hF5 hB5 hX5 hK hRL
          unfold fr28G
          go_upto_region 20 with fail
          refine wp_region_float [0, 1, 2, 3, 4] [5, 6, 7, 8] [0, 1, 2] mixed (fun ω => ω.cell? ⟨L.eb, m, none⟩ = some (.slice ad1 n cap1) ∧ ω.heap[wr.heap.size + 1]? = w5.heap[wr.heap.size + 1]?) (by kernel_rfl) rfl (by kernel_rfl) ⟨ce5, rfl⟩ ?_
          iterate 2 refine wpFl_op _ _ _ _ rfl rfl (fun ω hj => by go_simp; rfl) ?_
          refine wpFl_op _ _ _ _ rfl rfl (fun ω hj => by first | (go_simp; rfl) | (go_simp; rw [if_pos hmi])) ?_
          refine wpFl_op _ _ _ _ rfl rfl (fun ω hj => by obtain ⟨j1, j2⟩ := hj rfl; go_simp; rfl) ?_
          refine wpFl_op _ _ _ (.agg #[.bool RL.va, .int .u32 RL.sq, .int .u8 RL.st, .int .u32 RL.da, .int .u8 RL.re, .int .u8 RL.ca]) rfl rfl (fun ω hj => fl_load_rowF 38 (.tmp 13) rfl _ rfl _ (HVC.out ω (hj rfl).2)) ?_
          refine wpFl_nil _ _ ?_
          simp only [Act.put, List.setIfInBounds_toArray]
          refine wpCh_one _ _ _ _ rfl ?_
          simp only [List.getElem_toArray, List.getElem_cons_succ, List.getElem_cons_zero]
          go_wp2_with fail
          refine ⟨Below.heap_alloc w5 _ _ HB5.out.lt, ?_⟩
          refine wpCh_rest _ _ _ _ [_, _, _] _ _ rfl (by kernel_rfl) ?_
          simp only [List.getElem_toArray, List.getElem_cons_succ, List.getElem_cons_zero]
          go_wp2_with (at_builtin; refine wpList_append_sl _ rfl (.tmp 116) (.tmp 118) 88 rfl 38 i0 (.agg #[.bool false, .int .u32 0, .int .u8 0, .int .u32 0, .int .u8 0, .int .u8 0]) 6 20 Tryd.underlying88 hinf hz0 hz1 hz2 rfl (by decide) _ _ _ rfl (HS5.out.same ?d0) ⟨w5.heap.size, 0, none⟩ 1 1 [.bool RL.va, .int .u32 RL.sq, .int .u8 RL.st, .int .u32 RL.da, .int .u8 RL.re, .int .u8 RL.ca] rfl rfl ?d1 ?d2 ?d3 ?d4 ?_)
          case d0 =>
            intro k hk
            show (w5.alloc _).heap[k]? = _
            exact Below.heap_alloc w5 _ k (HS5.out.lt k hk)
          case d1 => exact cells_new _ _ _ _ rfl
          case d2 => intro u hu; simp at hu; rcases hu with rfl | rfl | rfl | rfl | rfl | rfl <;> rfl
          case d3 => unfold maxLen; omega
          case d4 => omega
          intro v' w6 hsl hgr hnew
          obtain ⟨ad', cap', rfl⟩ := hsl.form'
          have hblk : ∀ k, k < w5.heap.size → (Value.slice ad1 n cap1).ownBlock ≠ some k → w6.heap[k]? = w5.heap[k]? := by
            intro k hk hne'
            rw [hgr.block k (by show k < (w5.alloc _).heap.size; simp; omega) (Ne.symm hne')]
            show (w5.alloc _).heap[k]? = _
            exact Below.heap_alloc w5 _ k hk
          have hsA : ∀ k, (Value.slice ad1 n cap1).ownBlock = some k → k ≠ L.eb := HF5.out.eb.sl_ne (by decide) HS5.out
          have hA2 : Blk w6 L.eb (row 3 ev4) 89 := (hblk _ l1 (fun e => hsA _ e rfl)).trans HF5.out.eb
          have HFIN : Hid (FI (mark own4 w5.heap.size (21 + m)) (put w6 L.eb (row 3 (upd ev4 m (.slice ad' (n + 1) cap'))) 89) L av (upd ev4 m (.slice ad' (n + 1) cap')) σ' (fun m => (σ.x.mp m).rt) acc (ffN acc ρ ⟨exp, mem⟩ (k + 1)).exp (ffN acc ρ ⟨exp, mem⟩ (k + 1)).mem ∧ Ext own3 (mark own4 w5.heap.size (21 + m)) SF W (put w6 L.eb (row 3 (upd ev4 m (.slice ad' (n + 1) cap'))) 89)) := by
            have ee : ffN acc ρ ⟨exp, mem⟩ (k + 1) = ⟨upd ex m (ex m ++ [RL]), memR r me⟩ := by
              show ffR acc ρ k (ffN acc ρ ⟨exp, mem⟩ k) = _
              rw [HE.out]
              unfold ffR
              rw [if_neg (by rw [HG.out]; omega), HG.out, Int.toNat_natCast]
              have er : reqAt acc m (ex m).length = r := by unfold reqAt; rw [HHN.out, HR.out]; rfl
              simp only [er]
              rw [HHN.out, HRL.out]
            unfold Hid
            rw [ee]
            obtain ⟨f1, f2⟩ := HF5.out.expected hm3 RL (v := .slice ad' (n + 1) cap') (w3 := w6) (by rw [HHN.out]; exact hsl) hgr.os hgr.tape hgr.output (by
              have h9 : (w5.alloc (.cells #[.bool RL.va, .int .u32 RL.sq, .int .u8 RL.st, .int .u32 RL.da, .int .u8 RL.re, .int .u8 RL.ca] 38)).heap.size ≤ w6.heap.size := hgr.size
              simp at h9; omega) (by rw [HEV.out]; exact hblk) (fun k hk => by
              rw [HEV.out]
              rcases hnew k hk with h5 | h5
              · exact .inl h5
              · exact .inr (by omega))
            exact ⟨f1, HEX.out.trans (HX5.out.trans f2)⟩
          obtain ⟨w7, rfl, hl7⟩ := hA2.out
          have hset := row3_upd ev4 m (.slice ad' (n + 1) cap')
          have hget : (row 3 ev4)[m]? = some (.slice ad1 n cap1) := by rw [row_get _ _ _ hm3, HEV.out]
          rw [put_put] at HFIN
          clear hblk hsA hA2 hsl hgr hnew ce5 l1 nv
          go_wp2_with fail
          go_roundw
          case rel => exact ⟨k + 1, hk7, by go_num, _, _, HFIN⟩
          case measure => exact hmeas.out
    · obtain rfl : k = 7 := by omega
      obtain ⟨ex, me, hE⟩ : ∃ ex me, ffN acc ρ ⟨exp, mem⟩ 7 = ⟨ex, me⟩ := ⟨_, _, rfl⟩
      have hFI := hJ.out.1
      rw [hE] at hFI
      have hFI : FI own4 wr L av ev4 σ' (fun m => (σ.x.mp m).rt) acc ex me := hFI
      have HEX := hid_of hJ.out.2
      have hbq : Blk wr qb OB 43 := HBQ.out.ext HEX.out (by rw [hoq]; unfold SF; omega)
      have hrg : wr.rangeAt qb 10 (retsV ρ).toList := by
        have := obs_rets (w := wr) (qb := qb) (ob := stepO σ o) (by rw [HOBE.out]; exact hbq)
        rw [HOB1.out] at this; exact this
      have hF' := HFF.out
      have hR' := HRET.out
      rw [hE] at hF' hR'
      have HF' : Hid (FF σ' acc ex me) := hF'
      have HR' := hid_of hR'
      have HRG := hid_of hrg
      have HFI0 := hid_of hFI
      clear hFI hJ hbq hrg hF' hR' HFF HRET HGR HIX hE
      obtain ⟨R, hR⟩ : ∃ R, retsV ρ = R := ⟨_, rfl⟩
      have HIX : Hid (∀ (k : Nat) (_ : k < 3) (w : World), (Instr.index 39 (.agg R) (.int .i64 k)).run Tryd.prog w = .ok (.agg #[.bool (ρ.r k).va, .int .u32 (ρ.r k).sq, .int .u8 (ρ.r k).st, .int .u32 (ρ.r k).da, .int .u8 (ρ.r k).re, .int .u8 (ρ.r k).ca]) w) := by rw [← hR]; exact index_rets ρ
      have HRS18 : Hid ((Tryd.prog.info? 39).map (·.size) = some R.toList.length) := by rw [← hR]; rfl
      rw [hR] at HRG
      clear hR
      go_upto_region 22 with fail
      refine wp_region_list ?_
      go_wp2_with ((with_reducible show wpList _ _ _ ({ dst := _, op := Op.load 39 _, type := _, pos := _, after := _, guard := _ } :: _) _ _); refine wpList_load_mid rfl 39 (.tmp 123) rfl qb 10 rfl R.toList _ HRG.out (by rfl) (by rfl) HRS18.out ?_; rw [Array.toArray_toList])
      go_loopw [125] (fun i wr' => ∃ j : Nat, j ≤ 3 ∧ i = .int .i64 j ∧ ∃ own' rt', Hid (FI own' wr' L av ev4 σ' rt' acc ex me ∧ (∀ m, m < 3 → rt' m = if m < j then (σ'.x.mp m).rt else (σ.x.mp m).rt) ∧ Ext own3 own' SF W wr')) (fun i _ => 3 - (intOf i).toNat)
      case atStart => exact ⟨0, by omega, rfl, own4, _, HFI0.out, fun m _ => by rw [if_neg (by omega)], HEX.out⟩
      case round =>
        obtain ⟨j, hj, rfl, own5, rt5, hJ5⟩ := hrel
        by_cases hj3 : j < 3
        · have hmeas : Hid (3 - (intOf (.int .i64 ((j : Nat) + 1))).toNat < 3 - (intOf (.int .i64 (j : Nat))).toNat) := by simp [intOf, Hid]; omega
          have hix := HIX.out j hj3
          have hji : ((j : Nat) : Int) < 3 := by omega
          obtain ⟨hF5, hrt5, hX5⟩ := hJ5.out
          rcases HR'.out j hj3 with ⟨hva, hre, hrt⟩ | ⟨hva, hrt⟩
          · obtain ⟨q, hq⟩ : ∃ q : Nat, (σ.x.mp j).rt = (q : Nat) := Int.eq_ofNat_of_zero_le (HI.out.cnt j hj3).1
            obtain ⟨x, hx⟩ : ∃ x, ρ.r j = x := ⟨_, rfl⟩
            rw [hq, Int.toNat_natCast, hx] at hre
            rw [hx] at hix hva
            rw [hq] at hrt
            have hql : q < (ex j).length := (List.getElem?_eq_some_iff.1 hre).1
            obtain ⟨b, off, cap, hev, hcap, hbl⟩ := (hF5.se j hj3).form (by omega)
            have hqs : q < 3000000 := by
              have := HI.out.cnt j hj3; omega
            have hr5 : rt5 j = (q : Nat) := by rw [hrt5 j hj3, if_neg (by omega), hq]
            have ct : wr.cell? ⟨L.tb, j, none⟩ = some (.int .i64 (q : Nat)) := by rw [hF5.tb.cell, row_get _ _ _ hj3, hr5]
            have ce : wr.cell? ⟨L.eb, j, none⟩ = some (.slice (some ⟨b, off, none⟩) (ex j).length cap) := by rw [hF5.eb.cell, row_get _ _ _ hj3, hev]
            have cl0 := (hF5.se j hj3).cell hev (q * 6 + 0) (by rw [rets_len]; omega)
            have cl1 := (hF5.se j hj3).cell hev (q * 6 + 1) (by rw [rets_len]; omega)
            have cl2 := (hF5.se j hj3).cell hev (q * 6 + 2) (by rw [rets_len]; omega)
            have cl3 := (hF5.se j hj3).cell hev (q * 6 + 3) (by rw [rets_len]; omega)
            have cl4 := (hF5.se j hj3).cell hev (q * 6 + 4) (by rw [rets_len]; omega)
            have cl5 := (hF5.se j hj3).cell hev (q * 6 + 5) (by rw [rets_len]; omega)
            rw [rets_get _ _ _ x hre (by decide), ← Nat.add_assoc] at cl0 cl1 cl2 cl3 cl4 cl5
            have d0 : wr.cell? ⟨b, off + q * 6, none⟩ = some (.bool x.va) := cl0
            have d1 : wr.cell? ⟨b, off + q * 6 + 1, none⟩ = some (.int .u32 x.sq) := cl1
            have d2 : wr.cell? ⟨b, off + q * 6 + 2, none⟩ = some (.int .u8 x.st) := cl2
            have d3 : wr.cell? ⟨b, off + q * 6 + 3, none⟩ = some (.int .u32 x.da) := cl3
            have d4 : wr.cell? ⟨b, off + q * 6 + 4, none⟩ = some (.int .u8 x.re) := cl4
            have d5 : wr.cell? ⟨b, off + q * 6 + 5, none⟩ = some (.int .u8 x.ca) := cl5
            have heq : ∀ w : World, (Op.equalIn 10000 38 (.agg #[.bool x.va, .int .u32 x.sq, .int .u8 x.st, .int .u32 x.da, .int .u8 x.re, .int .u8 x.ca]) (.agg #[.bool x.va, .int .u32 x.sq, .int .u8 x.st, .int .u32 x.da, .int .u8 x.re, .int .u8 x.ca])).run Tryd.prog w = .ok true w := fun w => eq38F x w
            obtain ⟨le, hle⟩ : ∃ n, (ex j).length = n := ⟨_, rfl⟩
            rw [hle] at hql ce
            have hge : ¬ ((le : Nat) : Int) ≤ ((q : Nat) : Int) := by omega
            have hge' : decide (((le : Nat) : Int) ≤ ((q : Nat) : Int)) = false := decide_eq_false hge
            have hqli : ((q : Nat) : Int) < ((le : Nat) : Int) := by omega
            have hlt : L.tb < wr.heap.size := hF5.tb.lt
            have hle2 : L.eb < wr.heap.size := hF5.eb.lt
            have HN : Hid (∀ n : Nat, FI own5 (put ((wr.alloc (.cells #[.bool x.va, .int .u32 x.sq, .int .u8 x.st, .int .u32 x.da, .int .u8 x.re, .int .u8 x.ca] 38)).drewN n) L.tb (row 3 fun i => .int .i64 (upd rt5 j ((q : Nat) + 1) i)) 74) L av ev4 σ' (upd rt5 j ((q : Nat) + 1)) acc ex me ∧ (∀ m, m < 3 → upd rt5 j ((q : Nat) + 1) m = if m < j + 1 then (σ'.x.mp m).rt else (σ.x.mp m).rt) ∧ Ext own3 own5 SF W (put ((wr.alloc (.cells #[.bool x.va, .int .u32 x.sq, .int .u8 x.st, .int .u32 x.da, .int .u8 x.re, .int .u8 x.ca] 38)).drewN n) L.tb (row 3 fun i => .int .i64 (upd rt5 j ((q : Nat) + 1) i)) 74)) := fun n => by
              have hb : Below wr.heap.size wr ((wr.alloc (.cells #[.bool x.va, .int .u32 x.sq, .int .u8 x.st, .int .u32 x.da, .int .u8 x.re, .int .u8 x.ca] 38)).drewN n) := below_drewN ((Below.refl _ _).alloc (Nat.le_refl _) _)
              obtain ⟨f1, f2⟩ := (hF5.below hb).counted j ((q : Nat) + 1)
              refine ⟨f1, fun m hm => ?_, (hX5.shut (hb.mono hX5.size)).trans f2⟩
              by_cases e : m = j
              · subst e; rw [upd_same, if_pos (by omega), hrt]
              · rw [upd_ne _ _ _ _ e, hrt5 m hm]
                by_cases e2 : m < j
                · rw [if_pos e2, if_pos (by omega)]
                · rw [if_neg e2, if_neg (by omega)]
            have hbt := hF5.tb
            have hset : (row 3 fun m => Value.int .i64 (rt5 m)).setIfInBounds j (.int .i64 ((q : Nat) + 1)) = row 3 fun i => .int .i64 (upd rt5 j ((q : Nat) + 1) i) := row_set _ _ _ _ _ fun i _ => by
              unfold upd; split <;> rfl
            have hget : (row 3 fun m => Value.int .i64 (rt5 m))[j]? = some (.int .i64 (q : Nat)) := by rw [row_get _ _ _ hj3, hr5]
            rw [hva] at *
            clear hJ5 hF5 hrt5 hX5 hva hrt hq hx hre hev hcap cl0 cl1 cl2 cl3 cl4 cl5 hle hr5
            go_upto_region 26 with fail
            go_quiet (fail)
            have HNV := hid_of (HN.out nq)
            have hbV : Blk ((wr.alloc (.cells #[.bool true, .int .u32 x.sq, .int .u8 x.st, .int .u32 x.da, .int .u8 x.re, .int .u8 x.ca] 38)).drewN nq) L.tb (row 3 fun m => .int .i64 (rt5 m)) 74 := hbt.alloc _
            clear HN hbt ct ce d0 d1 d2 d3 d4 d5 heq hlt hle2 hbl hge hge'
            generalize ((wr.alloc (.cells #[.bool true, .int .u32 x.sq, .int .u8 x.st, .int .u32 x.da, .int .u8 x.re, .int .u8 x.ca] 38)).drewN nq) = V at *
            obtain ⟨V0, rfl, hl0⟩ := hbV.out
            rw [put_put] at HNV
            clear hbV
            have hadd : IntKind.i64.wrap (((q : Nat) : Int) + 1) = (q : Nat) + 1 := by simp [IntKind.wrap, IntKind.bits, IntKind.signed]; omega
            go_wp2_with fail
            go_roundw
            case rel => exact ⟨j + 1, hj3, by go_num, own5, _, HNV⟩
            case measure => exact hmeas.out
          · have HN : Hid (FI own5 (wr.alloc (.cells #[.bool (ρ.r j).va, .int .u32 (ρ.r j).sq, .int .u8 (ρ.r j).st, .int .u32 (ρ.r j).da, .int .u8 (ρ.r j).re, .int .u8 (ρ.r j).ca] 38)) L av ev4 σ' rt5 acc ex me ∧ (∀ m, m < 3 → rt5 m = if m < j + 1 then (σ'.x.mp m).rt else (σ.x.mp m).rt) ∧ Ext own3 own5 SF W (wr.alloc (.cells #[.bool (ρ.r j).va, .int .u32 (ρ.r j).sq, .int .u8 (ρ.r j).st, .int .u32 (ρ.r j).da, .int .u8 (ρ.r j).re, .int .u8 (ρ.r j).ca] 38))) := by
              have hb : Below wr.heap.size wr (wr.alloc (.cells #[.bool (ρ.r j).va, .int .u32 (ρ.r j).sq, .int .u8 (ρ.r j).st, .int .u32 (ρ.r j).da, .int .u8 (ρ.r j).re, .int .u8 (ρ.r j).ca] 38)) := (Below.refl _ _).alloc (Nat.le_refl _) _
              refine ⟨hF5.below hb, fun m hm => ?_, hX5.shut (hb.mono hX5.size)⟩
              rw [hrt5 m hm]
              by_cases e : m = j
              · subst e; rw [if_neg (by omega), if_pos (by omega), hrt]
              · by_cases e2 : m < j
                · rw [if_pos e2, if_pos (by omega)]
                · rw [if_neg e2, if_neg (by omega)]
            rw [hva] at hix HN
            clear hJ5 hF5 hrt5 hX5 hva hrt
            go_wp2_with fail
            go_roundw
            case rel => exact ⟨j + 1, hj3, by go_num, own5, rt5, HN⟩
            case measure => exact hmeas.out
        · obtain rfl : j = 3 := by omega
          obtain ⟨hF5, hrt5, hX5⟩ := hJ5.out
          have HFIN : Hid (FI own5 wr L av ev4 σ' (fun m => (σ'.x.mp m).rt) acc ex me ∧ Ext own own5 SF w wr) := ⟨hF5.rts (fun m hm => by rw [hrt5 m hm, if_pos hm]), (HXW.out.mono (fun k hk => hk.elim .inl (fun h => .inr (.inr h)))).trans hX5⟩
          clear hJ5 hF5 hrt5 hX5
          go_wp2_with fail
          go_ret
          exact ⟨rfl, own5, av, ev4, acc, ex, me, by rw [HSTP.out]; exact HFIN.out.1, by rw [HSTP.out]; exact HF'.out, HFIN.out.2⟩
end Go.Proofs.Qxb6500750aDoor
