import Derived.Test.Qxb6500750aDoorMt7
import Derived.Deep.MidRow
import Derived.Deep.WholeRow
namespace Go.Proofs.Qxb6500750aDoor
open Go.RowKit
attribute [local go_sem] put_size put_cell_same put_cell_ne put_frozen_same put_frozen_ne put_setCell_same put_setCell_ne put_drew
attribute [local go_sem] drewN_setCell drewN_alloc drewN_put upd_same upd_upd
/-! ### The machine's tick, whole -/
theorem index_q (M : MA) : ∀ (m : Nat) (_ : m < 3) (w : World), (Instr.index 96 (.agg #[M.q 0, M.q 1, M.q 2]) (.int .i64 (m : Nat))).run Tryd.prog w = .ok (M.q m) w
  | 0, _, _ => by kernel_rfl
  | 1, _, _ => by kernel_rfl
  | 2, _, _ => by kernel_rfl
  | _ + 3, h, _ => absurd h (by omega)
theorem index_c (f : Nat → Value) : ∀ (m : Nat) (_ : m < 3) (w : World), (Instr.index 151 (.agg (encC f)) (.int .i64 (m : Nat))).run Tryd.prog w = .ok (f m) w
  | 0, _, _ => by kernel_rfl
  | 1, _, _ => by kernel_rfl
  | 2, _, _ => by kernel_rfl
  | _ + 3, h, _ => absurd h (by omega)
theorem q_range {M : MA} {w : World} {mb : Nat} (h : Blk w mb (encM M) 104) : w.rangeAt mb 0 [M.q 0, M.q 1, M.q 2] := by
  intro j v hv
  show w.cell? ⟨mb, 0 + j, none⟩ = some v
  rw [Nat.zero_add, h.cell]
  obtain rfl | rfl | rfl | hj : j = 0 ∨ j = 1 ∨ j = 2 ∨ 3 ≤ j := by omega
  · rw [mg_q _ _ (by omega)]; exact hv
  · rw [mg_q _ _ (by omega)]; exact hv
  · rw [mg_q _ _ (by omega)]; exact hv
  · rw [List.getElem?_eq_none (by simpa using hj)] at hv; cases hv
theorem Tryd.size96 : (Tryd.prog.info? 96).map (·.size) = some 3 := by kernel_rfl
theorem Tryd.size151 : (Tryd.prog.info? 151).map (·.size) = some 3 := by kernel_rfl
theorem encC_size (f : Nat → Value) : (encC f).size = 3 := by simp [encC, row]
set_option maxRecDepth 100000 in
set_option maxHeartbeats 4000000 in
theorem mtick_any {N : Int} {A : Nat} {σ : SS} (hX : XInv N A σ) (hC : Clean σ.x) (hA : A + 14 < 1000000000) (own : Nat → Nat) (mb : Nat) (M : MA) (tb : Nat → Int → Nat) (p : Int) (w : World) (h : MR own w mb M tb σ) (hg : Glb own w) (hp0 : 0 ≤ p) :
    Calls Tryd.prog 38 #[.pointer (some ⟨mb, 0, none⟩), .int .u32 p] w fun e w' => e = .returned (.agg (encR (tickF p σ).2)) ∧ ∃ own' M', MR own' w' mb M' tb (tickF p σ).1 ∧ Ext own own' (fun k => SM k ∨ k = 49 ∨ k = 51) w w' := by
  have HG := hid_of hg
  have H := hid_of h
  clear hg h
  go_enter Tryd.func38, Tryd.ntmps38
  go_wp2_with fail
  rw [← encR_zero]
  obtain ⟨W, hW⟩ : ∃ W, (w.alloc (.cells (encR rep0) 41)).alloc (.cells (encR rep0) 41) = W := ⟨_, rfl⟩
  have hx0 : Ext own (mark (mark own w.heap.size 50) (w.heap.size + 1) 49) (fun _ => False) w W := by
    rw [← hW]
    have h1 := Ext.alloc own (fun _ => False) w (.cells (encR rep0) 41) 50
    have h2 := Ext.alloc (mark own w.heap.size 50) (fun _ => False) (w.alloc (.cells (encR rep0) 41)) (.cells (encR rep0) 41) 49
    simp only [World.size_alloc] at h2
    exact h1.trans h2
  have hB0 : Blk W w.heap.size (encR rep0) 41 := by rw [← hW]; exact (Blk.new w _ _).alloc _
  have hB1 : Blk W (w.heap.size + 1) (encR rep0) 41 := by
    rw [← hW]; have := Blk.new (w.alloc (.cells (encR rep0) 41)) (encR rep0) 41
    simp only [World.size_alloc] at this
    exact this
  have hlW : w.heap.size + 2 = W.heap.size := by rw [← hW]; simp
  rw [hW]
  have hG0 := HG.out.ext hx0 (fun h => h)
  have hM0 := H.out.ext hx0 (fun _ _ h => h)
  have ho1 : mark (mark own w.heap.size 50) (w.heap.size + 1) 49 (w.heap.size + 1) = 49 := mark_ge (Nat.le_refl _)
  have ho0 : mark (mark own w.heap.size 50) (w.heap.size + 1) 49 w.heap.size = 50 := (mark_lt (Nat.lt_succ_self _)).trans (mark_ge (Nat.le_refl _))
  have HE0 := hid_of hx0
  clear hW hx0 H HG
  generalize mark (mark own w.heap.size 50) (w.heap.size + 1) 49 = own0 at *
  have HG0 := hid_of hG0
  have HB0 := hid_of hB0
  have hL0 : L1 own0 W mb (w.heap.size + 1) tb σ 0 W := ⟨own0, M, hM0, hB1, ho1, Ext.refl _ _ _⟩
  clear hG0 hM0 hB0 hB1
  refine q_of (Q := fun a => (Code.loop _).wp Tryd.prog _ a _) (F := fr38a mb w.heap.size p 0) (fun u => lp38_1 hX hC hA p hL0 u _ ?_ _ (by kernel_rfl)) _ (by kernel_rfl)
  intro u1 w1 hL7
  clear hL0
  obtain ⟨own1, M1, hM1, hR1, hor1, hE1⟩ := hL7
  have HM1 : Hid (MR own1 w1 mb M1 tb (tick1 σ).1) := hM1
  have HR1 : Hid (Blk w1 (w.heap.size + 1) (encR (tick1 σ).2) 41) := hR1
  have hX1 : XInv N (A + 7) (tick1 σ).1 := hX.collectN rep0 7 (by omega)
  have HE1 := hid_of hE1
  have HG1 := hid_of (HG0.out.ext hE1 (by unfold SM; omega))
  have HB01 : Hid (Blk w1 w.heap.size (encR rep0) 41) := HB0.out.ext hE1 (by rw [ho0]; unfold SM; omega)
  have ho01 : own1 w.heap.size = 50 := (hE1.keep _ (by omega)).trans ho0
  have hw1 : w.heap.size + 2 ≤ w1.heap.size := by have := hE1.size; omega
  clear hM1 hR1 hE1 HB0 HG0
  have hrng := q_range HM1.out.blk
  have hmbl := HM1.out.blk.lt
  unfold fr38a
  go_upto_region 12 with fail
  have hz151 : (#[Value.pointer none, Value.pointer none, Value.pointer none] : Array Value) = encC (candK tb (tick1 σ).1.x 0) := rfl
  rw [hz151]
  obtain ⟨W2, hW2⟩ : ∃ W2, w1.alloc (.cells (encC (candK tb (tick1 σ).1.x 0)) 151) = W2 := ⟨_, rfl⟩
  have hx2 : Ext own1 (mark own1 w1.heap.size 50) (fun _ => False) w1 W2 := by rw [← hW2]; exact Ext.alloc own1 (fun _ => False) w1 _ 50
  have hC2 : Blk W2 w1.heap.size (encC (candK tb (tick1 σ).1.x 0)) 151 := by rw [← hW2]; exact Blk.new w1 _ _
  rw [hW2]
  have hoc2 : mark own1 w1.heap.size 50 w1.heap.size = 50 := mark_ge (Nat.le_refl _)
  have hM2 := HM1.out.ext hx2 (fun _ _ h => h)
  have hR2 := HR1.out.ext hx2 (fun h => h)
  have hB02 := HB01.out.ext hx2 (fun h => h)
  have hG2 := HG1.out.ext hx2 (fun h => h)
  have hor2 : mark own1 w1.heap.size 50 (w.heap.size + 1) = 49 := (hx2.keep _ HR1.out.lt).trans hor1
  have ho02 : mark own1 w1.heap.size 50 w.heap.size = 50 := (hx2.keep _ HB01.out.lt).trans ho01
  have HE2 := hid_of hx2
  have hsz2 : W2.heap.size = w1.heap.size + 1 := by rw [← hW2]; simp
  clear hW2 hx2 HM1 HR1 HB01 HG1 hrng hor1 ho01
  generalize mark own1 w1.heap.size 50 = own2 at *
  have HRNG := hid_of (q_range hM2.blk)
  have HM2 := hid_of hM2
  have HR2 := hid_of hR2
  have HB02 := hid_of hB02
  have HG2 := hid_of hG2
  clear hM2 hR2 hB02 hG2
  refine wp_region_list ?_
  go_wp2_with ((with_reducible show wpList _ _ _ ({ dst := _, op := Op.load 96 _, type := _, pos := _, after := _, guard := _ } :: _) _ _); refine wpList_load_mid rfl 96 (.tmp 55) rfl mb 0 rfl [M1.q 0, M1.q 1, M1.q 2] _ HRNG.out (by rfl) (by rfl) Tryd.size96 ?_)
  obtain ⟨w0, rfl, hl0⟩ := hC2.out
  have hput : ∀ f, Ext own2 own2 (· = 50) (put w0 w1.heap.size (encC (candK tb (tick1 σ).1.x 0)) 151) (put w0 w1.heap.size (encC f) 151) := fun f => by
    have := Ext.put (own := own2) (S := (· = 50)) (w := put w0 w1.heap.size (encC (candK tb (tick1 σ).1.x 0)) 151) (b := w1.heap.size) (cs := encC f) (T := 151) hoc2
    rw [put_put] at this; exact this
  have hne1 : w.heap.size + 1 ≠ w1.heap.size := by omega
  have hne0 : w.heap.size ≠ w1.heap.size := by omega
  refine q_of (Q := fun a => (Code.loop _).wp Tryd.prog _ a _) (F := fr38b mb w.heap.size p w1.heap.size (.agg #[M1.q 0, M1.q 1, M1.q 2]) 0) (fun u => lp38_2 hX1 p _ (index_q M1) (fun f => HM2.out.ext (hput f) (fun j hj e => by unfold SM at hj; omega)) hoc2 hl0 u _ ?_ _ (by kernel_rfl)) _ (by kernel_rfl)
  intro u2
  have hM3 := HM2.out.ext (hput (candK tb (tick1 σ).1.x 3)) (fun j hj e => by unfold SM at hj; omega)
  have hR3 := HR2.out.ext (hput (candK tb (tick1 σ).1.x 3)) (by omega)
  have hG3 := HG2.out.ext (hput (candK tb (tick1 σ).1.x 3)) (by omega)
  have hB03 : Blk (put w0 w1.heap.size (encC (candK tb (tick1 σ).1.x 3)) 151) w.heap.size (encR rep0) 41 := by
    have h9 := HB02.out
    exact (put_heap_ne _ _ _ _ _ hne0).trans ((put_heap_ne _ _ _ _ _ hne0).symm.trans h9)
  have hC3 : Blk (put w0 w1.heap.size (encC (candK tb (tick1 σ).1.x 3)) 151) w1.heap.size (encC (candK tb (tick1 σ).1.x 3)) 151 := Blk.put_same hl0
  have HE3 := hid_of (hput (candK tb (tick1 σ).1.x 3))
  rw [put_size] at hsz2
  have hs3 : (put w0 w1.heap.size (encC (candK tb (tick1 σ).1.x 3)) 151).heap.size = w1.heap.size + 1 := by rw [put_size]; exact hsz2
  have HSAME : Hid (∀ k, k ≠ w1.heap.size → (put w0 w1.heap.size (encC (candK tb (tick1 σ).1.x 3)) 151).heap[k]? = (put w0 w1.heap.size (encC (candK tb (tick1 σ).1.x 0)) 151).heap[k]?) := fun k hk => by rw [put_heap_ne _ _ _ _ _ hk, put_heap_ne _ _ _ _ _ hk]
  obtain ⟨W3, hW3⟩ : ∃ W3, put w0 w1.heap.size (encC (candK tb (tick1 σ).1.x 3)) 151 = W3 := ⟨_, rfl⟩
  rw [hW3] at hM3 hR3 hG3 hB03 hC3 HE3 hs3 HSAME ⊢
  have HM3 := hid_of hM3
  have HR3 := hid_of hR3
  have HG3 := hid_of hG3
  have HB03 := hid_of hB03
  have HC3 := hid_of hC3
  clear hW3 hM3 hR3 hG3 hB03 hC3 hput HM2 HR2 HG2 HB02 HRNG hC2
  unfold fr38b
  go_upto_region 23 with fail
  have hz74 : (#[Value.int .i64 0, Value.int .i64 0, Value.int .i64 0] : Array Value) = encGo (goalK (tick1 σ).1.x 0) := by
    have : goalK (tick1 σ).1.x 0 = fun _ => 0 := by funext m; unfold goalK; rw [if_neg (fun q => by omega)]
    rw [this]; rfl
  rw [hz74]
  obtain ⟨W4, hW4⟩ : ∃ W4, W3.alloc (.cells (encGo (goalK (tick1 σ).1.x 0)) 74) = W4 := ⟨_, rfl⟩
  have hx4 : Ext own2 (mark own2 W3.heap.size 51) (fun _ => False) W3 W4 := by rw [← hW4]; exact Ext.alloc own2 (fun _ => False) W3 _ 51
  have hG4 : Blk W4 W3.heap.size (encGo (goalK (tick1 σ).1.x 0)) 74 := by rw [← hW4]; exact Blk.new W3 _ _
  rw [hs3] at hx4 hG4
  rw [hW4]
  have hog4 : mark own2 (w1.heap.size + 1) 51 (w1.heap.size + 1) = 51 := mark_ge (Nat.le_refl _)
  have hM4 := HM3.out.ext hx4 (fun _ _ h => h)
  have hR4 := HR3.out.ext hx4 (fun h => h)
  have hB04 := HB03.out.ext hx4 (fun h => h)
  have hGl4 := HG3.out.ext hx4 (fun h => h)
  have hC4 := HC3.out.ext hx4 (fun h => h)
  have hor4 : mark own2 (w1.heap.size + 1) 51 (w.heap.size + 1) = 49 := (hx4.keep _ HR3.out.lt).trans hor2
  have ho04 : mark own2 (w1.heap.size + 1) 51 w.heap.size = 50 := (hx4.keep _ HB03.out.lt).trans ho02
  have hoc4 : mark own2 (w1.heap.size + 1) 51 w1.heap.size = 50 := (hx4.keep _ HC3.out.lt).trans hoc2
  have HE4 := hid_of hx4
  clear hW4 hx4 HM3 HR3 HB03 HG3 HC3
  generalize mark own2 (w1.heap.size + 1) 51 = own4 at *
  have HC4 := hid_of hC4
  have HR4 := hid_of hR4
  have HB04 := hid_of hB04
  have hGI : GI own4 W4 mb (w1.heap.size + 1) M1 tb (tick1 σ).1 0 W4 := ⟨hM4, hG4, hGl4, Ext.refl _ _ _⟩
  have HGI := hid_of hGI
  clear hM4 hG4 hGl4 hC4 hR4 hB04 hGI
  refine wp_region_list ?_
  refine wpList_load_row (by rfl) 151 (.tmp 8) (by rfl) w1.heap.size (by rfl) 151 (encC (candK tb (tick1 σ).1.x 3)) (0, 0) _ HC4.out (by rfl) rfl (by rw [Tryd.size151, encC_size]) ?_
  go_wp2_with fail
  have hck : ∀ m, m < 3 → candK tb (tick1 σ).1.x 3 m = candV tb (tick1 σ).1.x m := fun m hm => if_pos hm
  refine q_of (Q := fun a => (Code.loop _).wp Tryd.prog _ a _) (F := fr38d mb w.heap.size p w1.heap.size (w1.heap.size + 1) (.agg (encC (candK tb (tick1 σ).1.x 3))) 0) (fun u => lp38_3 hX1 p _ (fun m hm w => (index_c _ m hm w).trans (by rw [hck m hm])) hog4 HGI.out u _ ?_ _ (by kernel_rfl)) _ (by kernel_rfl)
  intro u3 w5 hG5
  have hRr5 := HR4.out.ext hG5.ext (by rw [hor4]; omega)
  have hC5 := HC4.out.ext hG5.ext (by rw [hoc4]; omega)
  have HB05 := hid_of (HB04.out.ext hG5.ext (by rw [ho04]; omega))
  have HE5 := hid_of hG5.ext
  have hA40 : A4 own4 w5 mb (w.heap.size + 1) w1.heap.size (w1.heap.size + 1) tb (tick1 σ).1 (tick1 σ).2 p 0 w5 := ⟨own4, M1, hG5.mr, hRr5, hor4, hC5, hoc4, hG5.blk, hog4, Ext.refl _ _ _⟩
  have HA40 := hid_of hA40
  clear hRr5 hC5 hG5 hA40 HC4 HR4 HB04 HGI hck
  unfold fr38d
  go_wp2_with fail
  refine q_of (Q := fun a => (Code.loop _).wp Tryd.prog _ a _) (F := fr38f mb w.heap.size p w1.heap.size (w1.heap.size + 1) 0) (fun u => lp38_4 hX1 (by omega) p hp0 HA40.out u _ ?_ _ (by kernel_rfl)) _ (by kernel_rfl)
  intro u4 w6 hA47
  obtain ⟨own6, M6, hM6, hR6, hor6, _, _, _, _, hE6⟩ := hA47
  have hX2 : XInv N (A + 7 + 7) (tick2 p σ).1 := (hX1.arbN p (tick1 σ).2 7 (by omega)).1
  have HM6 : Hid (MR own6 w6 mb M6 tb (tick2 p σ).1) := hM6
  have HR6 : Hid (Blk w6 (w.heap.size + 1) (encR (tick2 p σ).2) 41) := hR6
  have HB06 := hid_of (HB05.out.ext hE6 (by rw [ho04]; unfold SM; omega))
  have ho06 : own6 w.heap.size = 50 := (hE6.keep _ HB05.out.lt).trans ho04
  have HE6 := hid_of hE6
  have HRNG := hid_of (q_range HM6.out.blk)
  have hH50 : H5 own6 w6 mb (w.heap.size + 1) tb (tick2 p σ).1 (tick2 p σ).2 M6 0 w6 := ⟨own6, M6, HM6.out, HR6.out, hor6, fun _ _ _ => rfl, Ext.refl _ _ _⟩
  have HH50 := hid_of hH50
  clear hM6 hR6 hE6 hH50 HA40 HB05
  unfold fr38f
  go_upto_region 52 with fail
  refine wp_region_list ?_
  go_wp2_with ((with_reducible show wpList _ _ _ ({ dst := _, op := Op.load 96 _, type := _, pos := _, after := _, guard := _ } :: _) _ _); refine wpList_load_mid rfl 96 (.tmp 181) rfl mb 0 rfl [M6.q 0, M6.q 1, M6.q 2] _ HRNG.out (by rfl) (by rfl) Tryd.size96 ?_)
  refine q_of (Q := fun a => (Code.loop _).wp Tryd.prog _ a _) (F := fr38g mb w.heap.size p (.agg #[M6.q 0, M6.q 1, M6.q 2]) 0) (fun u => lp38_5 hX2 p _ (index_q M6) HH50.out u _ ?_ _ (by kernel_rfl)) _ (by kernel_rfl)
  intro u5 w7 hH53
  obtain ⟨own7, M7, hM7, hR7, hor7, _, hE7⟩ := hH53
  have HM7 : Hid (MR own7 w7 mb M7 tb (tickF p σ).1) := hM7
  have hR7' : Blk w7 (w.heap.size + 1) (encR (tickF p σ).2) 41 := hR7
  have hB07 := HB06.out.ext hE7 (by rw [ho06]; unfold SM; omega)
  have ho07 : own7 w.heap.size = 50 := (hE7.keep _ HB06.out.lt).trans ho06
  have HEE : Hid (Ext own own7 (fun k => SM k ∨ k = 49 ∨ k = 51) w w7) := by
    unfold Hid
    refine (HE0.out.mono (S' := fun k => SM k ∨ k = 49 ∨ k = 51) (fun _ q => q.elim)).trans ?_
    refine (HE1.out.mono (fun k q => q.elim .inl (fun q => .inr (.inl q)))).trans ?_
    have hx25 : Ext own1 own4 (fun k => SM k ∨ k = 49 ∨ k = 51) w1 w5 := by
      have e2 := HE2.out
      have e3 := HE3.out
      have e4 := HE4.out
      have e5 := HE5.out
      refine ⟨?_, ?_, ?_, ?_, fun k hk => ?_, fun k hk hs => ?_⟩
      · rw [e5.os, e4.os, e3.os, e2.os]
      · rw [e5.tape, e4.tape, e3.tape, e2.tape]
      · rw [e5.output, e4.output, e3.output, e2.output]
      · have := e2.size; have := e3.size; have := e4.size; have := e5.size; omega
      · have k2 : k < (put w0 w1.heap.size (encC (candK tb (tick1 σ).1.x 0)) 151).heap.size := Nat.lt_of_lt_of_le hk e2.size
        have k3 := Nat.lt_of_lt_of_le k2 e3.size
        exact (e4.keep k k3).trans (e2.keep k hk)
      · have k2 : k < (put w0 w1.heap.size (encC (candK tb (tick1 σ).1.x 0)) 151).heap.size := Nat.lt_of_lt_of_le hk e2.size
        have k3 := Nat.lt_of_lt_of_le k2 e3.size
        have k4 := Nat.lt_of_lt_of_le k3 e4.size
        have o2 := e2.keep k hk
        have o4 := e4.keep k k3
        rw [e5.block k k4 (fun e => hs (.inr (.inr (by rw [← o2, ← o4]; exact e)))), e4.block k k3 (fun q => q), HSAME.out k (by omega), e2.block k hk (fun q => q)]
    exact hx25.trans ((HE6.out.mono (fun k q => q.elim .inl (fun q => .inr (.inl q)))).trans (hE7.mono (fun k q => q.elim .inl (fun q => .inr (.inl q)))))
  clear hM7 hR7 hE7 HE0 HE1 HE2 HE3 HE4 HE5 HE6 HRNG HH50 HB06 HM6 HR6
  have hsz := encR_size (tickF p σ).2
  have h1c : (encR (tickF p σ).2).all (·.oneCell') = true := by rw [encR_lit]; simp [Value.oneCell']
  unfold fr38g
  go_upto_region 60 with fail
  refine wp_region_list ?_
  refine wpList_load_row (by rfl) 41 (.tmp 5) (by rfl) (w.heap.size + 1) (by rfl) 41 (encR (tickF p σ).2) (0, 0) _ hR7' Tryd.underlying41 rfl (by rw [Tryd.size41, hsz]) ?_
  refine wpList_store_row (by rfl) 41 (.tmp 4) (.tmp 220) (by rfl) w.heap.size (encR (tickF p σ).2) (by rfl) (by rfl) 41 (encR rep0) hB07 (by rw [Tryd.size41, hsz]) (by rw [encR_size, hsz]) h1c ?_
  rw [setRow_put hB07]
  go_wp2_with fail
  refine bodyPost_ret (v := .agg (encR (tickF p σ).2)) (results_cell_row (by rfl) _ _ w.heap.size 41 _ (0, 0) _ (by rfl) (Blk.put_same hB07.lt) Tryd.underlying41 rfl (by rw [Tryd.size41, hsz])) rfl ⟨rfl, own7, M7, ?_, ?_⟩
  · exact HM7.out.ext (Ext.put (S := (· = 50)) ho07) (fun k hk e => by unfold SM at hk; omega)
  · exact HEE.out.shut (Below.put (Below.refl _ _) (Nat.le_refl _) _ _)
end Go.Proofs.Qxb6500750aDoor
