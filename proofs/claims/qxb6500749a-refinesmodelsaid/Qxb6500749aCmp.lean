import Derived.Test.Qxb6500749aStc
import Derived.LoopN
namespace Go.Proofs.Qxb6500749a
open Go.RowKit
attribute [local go_sem] put_size put_cell_same put_cell_ne put_frozen_same put_frozen_ne put_setCell_same put_setCell_ne put_drew
attribute [local go_sem] drewN_setCell drewN_alloc drewN_put
/-! ### The comparators -/
def neB (a b : BU) : Bool := a.c != b.c || a.a != b.a || a.d != b.d
set_option maxRecDepth 100000 in
theorem uneq_0 (ia ib : Nat) (a0 a1 a2 b0 b1 b2 : Int) (w : World) (ha : Blk w ia #[.int .u32 a0, .int .u32 a1, .int .u32 a2] 30) (hb : Blk w ib #[.int .u32 b0, .int .u32 b1, .int .u32 b2] 30) (e0 : (a0 != b0) = true) :
    Calls Try.prog 79 #[.slice (some ⟨ia, 0, none⟩) 3 3, .slice (some ⟨ib, 0, none⟩) 3 3] w fun e w' => e = .returned (.bool true) ∧ Below w.heap.size w w' := by
  have p0 : w.cell? ⟨ia, 0, none⟩ = some (.int .u32 a0) := ha.cell 0
  have q0 : w.cell? ⟨ib, 0, none⟩ = some (.int .u32 b0) := hb.cell 0
  have p1 : w.cell? ⟨ia, 1, none⟩ = some (.int .u32 a1) := ha.cell 1
  have q1 : w.cell? ⟨ib, 1, none⟩ = some (.int .u32 b1) := hb.cell 1
  have p2 : w.cell? ⟨ia, 2, none⟩ = some (.int .u32 a2) := ha.cell 2
  have q2 : w.cell? ⟨ib, 2, none⟩ = some (.int .u32 b2) := hb.cell 2
  clear ha hb
  go_enter Try.func79, Try.ntmps79
  go_wp2_with fail
  refine wp_loop_rounds 4 ?_
  rw [rounds_succ]
  go_wp2_with fail
  go_quiet (fail)
  go_wp2_with fail
  go_ret
  exact ⟨rfl, ⟨rfl, rfl, rfl, Nat.le_refl _, fun _ _ => rfl⟩⟩
set_option maxRecDepth 100000 in
theorem uneq_1 (ia ib : Nat) (a0 a1 a2 b0 b1 b2 : Int) (w : World) (ha : Blk w ia #[.int .u32 a0, .int .u32 a1, .int .u32 a2] 30) (hb : Blk w ib #[.int .u32 b0, .int .u32 b1, .int .u32 b2] 30) (e0 : (a0 != b0) = false) (e1 : (a1 != b1) = true) :
    Calls Try.prog 79 #[.slice (some ⟨ia, 0, none⟩) 3 3, .slice (some ⟨ib, 0, none⟩) 3 3] w fun e w' => e = .returned (.bool true) ∧ Below w.heap.size w w' := by
  have p0 : w.cell? ⟨ia, 0, none⟩ = some (.int .u32 a0) := ha.cell 0
  have q0 : w.cell? ⟨ib, 0, none⟩ = some (.int .u32 b0) := hb.cell 0
  have p1 : w.cell? ⟨ia, 1, none⟩ = some (.int .u32 a1) := ha.cell 1
  have q1 : w.cell? ⟨ib, 1, none⟩ = some (.int .u32 b1) := hb.cell 1
  have p2 : w.cell? ⟨ia, 2, none⟩ = some (.int .u32 a2) := ha.cell 2
  have q2 : w.cell? ⟨ib, 2, none⟩ = some (.int .u32 b2) := hb.cell 2
  clear ha hb
  go_enter Try.func79, Try.ntmps79
  go_wp2_with fail
  refine wp_loop_rounds 4 ?_
  rw [rounds_succ]
  go_wp2_with fail
  go_quiet (fail)
  go_wp2_with fail
  rw [rounds_succ]
  go_wp2_with fail
  go_quiet (fail)
  go_wp2_with fail
  go_ret
  exact ⟨rfl, ⟨rfl, rfl, rfl, Nat.le_refl _, fun _ _ => rfl⟩⟩
set_option maxRecDepth 100000 in
theorem uneq_2 (ia ib : Nat) (a0 a1 a2 b0 b1 b2 : Int) (w : World) (ha : Blk w ia #[.int .u32 a0, .int .u32 a1, .int .u32 a2] 30) (hb : Blk w ib #[.int .u32 b0, .int .u32 b1, .int .u32 b2] 30) (e0 : (a0 != b0) = false) (e1 : (a1 != b1) = false) (e2 : (a2 != b2) = true) :
    Calls Try.prog 79 #[.slice (some ⟨ia, 0, none⟩) 3 3, .slice (some ⟨ib, 0, none⟩) 3 3] w fun e w' => e = .returned (.bool true) ∧ Below w.heap.size w w' := by
  have p0 : w.cell? ⟨ia, 0, none⟩ = some (.int .u32 a0) := ha.cell 0
  have q0 : w.cell? ⟨ib, 0, none⟩ = some (.int .u32 b0) := hb.cell 0
  have p1 : w.cell? ⟨ia, 1, none⟩ = some (.int .u32 a1) := ha.cell 1
  have q1 : w.cell? ⟨ib, 1, none⟩ = some (.int .u32 b1) := hb.cell 1
  have p2 : w.cell? ⟨ia, 2, none⟩ = some (.int .u32 a2) := ha.cell 2
  have q2 : w.cell? ⟨ib, 2, none⟩ = some (.int .u32 b2) := hb.cell 2
  clear ha hb
  go_enter Try.func79, Try.ntmps79
  go_wp2_with fail
  refine wp_loop_rounds 4 ?_
  rw [rounds_succ]
  go_wp2_with fail
  go_quiet (fail)
  go_wp2_with fail
  rw [rounds_succ]
  go_wp2_with fail
  go_quiet (fail)
  go_wp2_with fail
  rw [rounds_succ]
  go_wp2_with fail
  go_quiet (fail)
  go_wp2_with fail
  go_ret
  exact ⟨rfl, ⟨rfl, rfl, rfl, Nat.le_refl _, fun _ _ => rfl⟩⟩
set_option maxRecDepth 100000 in
theorem uneq_3 (ia ib : Nat) (a0 a1 a2 b0 b1 b2 : Int) (w : World) (ha : Blk w ia #[.int .u32 a0, .int .u32 a1, .int .u32 a2] 30) (hb : Blk w ib #[.int .u32 b0, .int .u32 b1, .int .u32 b2] 30) (e0 : (a0 != b0) = false) (e1 : (a1 != b1) = false) (e2 : (a2 != b2) = false) :
    Calls Try.prog 79 #[.slice (some ⟨ia, 0, none⟩) 3 3, .slice (some ⟨ib, 0, none⟩) 3 3] w fun e w' => e = .returned (.bool false) ∧ Below w.heap.size w w' := by
  have p0 : w.cell? ⟨ia, 0, none⟩ = some (.int .u32 a0) := ha.cell 0
  have q0 : w.cell? ⟨ib, 0, none⟩ = some (.int .u32 b0) := hb.cell 0
  have p1 : w.cell? ⟨ia, 1, none⟩ = some (.int .u32 a1) := ha.cell 1
  have q1 : w.cell? ⟨ib, 1, none⟩ = some (.int .u32 b1) := hb.cell 1
  have p2 : w.cell? ⟨ia, 2, none⟩ = some (.int .u32 a2) := ha.cell 2
  have q2 : w.cell? ⟨ib, 2, none⟩ = some (.int .u32 b2) := hb.cell 2
  clear ha hb
  go_enter Try.func79, Try.ntmps79
  go_wp2_with fail
  refine wp_loop_rounds 4 ?_
  rw [rounds_succ]
  go_wp2_with fail
  go_quiet (fail)
  go_wp2_with fail
  rw [rounds_succ]
  go_wp2_with fail
  go_quiet (fail)
  go_wp2_with fail
  rw [rounds_succ]
  go_wp2_with fail
  go_quiet (fail)
  go_wp2_with fail
  rw [rounds_succ]
  go_wp2_with fail
  go_ret
  exact ⟨rfl, ⟨rfl, rfl, rfl, Nat.le_refl _, fun _ _ => rfl⟩⟩
theorem uneq_any (ia ib : Nat) (a b : BU) (w : World) (ha : Blk w ia (buV a) 30) (hb : Blk w ib (buV b) 30) :
    Calls Try.prog 79 #[.slice (some ⟨ia, 0, none⟩) 3 3, .slice (some ⟨ib, 0, none⟩) 3 3] w fun e w' => e = .returned (.bool (neB a b)) ∧ Below w.heap.size w w' := by
  obtain ⟨a0, a1, a2⟩ := a
  obtain ⟨b0, b1, b2⟩ := b
  unfold neB
  simp only []
  cases e0 : (a0 != b0)
  · cases e1 : (a1 != b1)
    · cases e2 : (a2 != b2)
      · exact uneq_3 ia ib a0 a1 a2 b0 b1 b2 w ha hb e0 e1 e2
      · exact uneq_2 ia ib a0 a1 a2 b0 b1 b2 w ha hb e0 e1 e2
    · exact uneq_1 ia ib a0 a1 a2 b0 b1 b2 w ha hb e0 e1
  · exact uneq_0 ia ib a0 a1 a2 b0 b1 b2 w ha hb e0
theorem BR.drew' {w : World} {bb cb : Nat} {fv : Value} {B : BD} (h : BR w bb cb fv B) : BR w.drew bb cb fv B := ⟨h.blk, h.cel, h.sl, h.ok, h.len, h.now⟩
def cmpF (B : BD) (site : Nat) (a b : BU) : Bool := (bits BinOp.and IntKind.u32 (B.pass site (if neB a b = true then 1 else 0)) 1 == 1)
set_option maxRecDepth 100000 in
set_option maxHeartbeats 4000000 in
theorem compare_any (pb bb cb site : Nat) (hs : site < 55) (fv : Value) (B : BD) (a b : BU) (w : World) (h : BR w bb cb fv B) (hp : w.cell? ⟨pb, 0, none⟩ = some (.pointer (some ⟨bb, 0, none⟩))) :
    Calls Try.prog 65 #[.pointer (some ⟨pb, 0, none⟩), .int .i64 (site : Nat), .agg (buV a), .agg (buV b)] w fun e w' => e = .returned (.bool (cmpF B site a b)) ∧ Below w.heap.size w w' := by
  obtain ⟨a0, a1, a2⟩ := a
  obtain ⟨b0, b1, b2⟩ := b
  obtain ⟨W3, hW3⟩ : ∃ W3, (w.alloc (.cells #[.int .u32 a0, .int .u32 a1, .int .u32 a2] 49)).alloc (.cells #[.int .u32 b0, .int .u32 b1, .int .u32 b2] 49) = W3 := ⟨_, rfl⟩
  have hs3 : W3.heap.size = w.heap.size + 1 + 1 := by rw [← hW3]; simp
  have hbel : Below w.heap.size w W3 := by rw [← hW3]; exact ((Below.refl _ _).alloc (Nat.le_refl _) _).alloc (by simp) _
  have hba : Blk W3 w.heap.size #[.int .u32 a0, .int .u32 a1, .int .u32 a2] 49 := by
    rw [← hW3]; exact (Below.heap_alloc _ _ _ (by simp)).trans (Blk.new w _ 49)
  have hbb : Blk W3 (w.heap.size + 1) #[.int .u32 b0, .int .u32 b1, .int .u32 b2] 49 := by
    rw [← hW3]
    have := Blk.new (w.alloc (.cells #[.int .u32 a0, .int .u32 a1, .int .u32 a2] 49)) #[.int .u32 b0, .int .u32 b1, .int .u32 b2] 49
    simpa using this
  obtain ⟨W5, hW5⟩ : ∃ W5, (W3.alloc (.cells #[.int .u32 a0, .int .u32 a1, .int .u32 a2] 30)).alloc (.cells #[.int .u32 b0, .int .u32 b1, .int .u32 b2] 30) = W5 := ⟨_, rfl⟩
  have hbel5 : Below W3.heap.size W3 W5 := by rw [← hW5]; exact ((Below.refl _ _).alloc (Nat.le_refl _) _).alloc (by simp) _
  have hia : Blk W5 W3.heap.size (buV ⟨a0, a1, a2⟩) 30 := by
    rw [← hW5]; exact (Below.heap_alloc _ _ _ (by simp)).trans (Blk.new W3 _ 30)
  have hib : Blk W5 (W3.heap.size + 1) (buV ⟨b0, b1, b2⟩) 30 := by
    rw [← hW5]
    have := Blk.new (W3.alloc (.cells #[.int .u32 a0, .int .u32 a1, .int .u32 a2] 30)) #[.int .u32 b0, .int .u32 b1, .int .u32 b2] 30
    simpa [buV] using this
  have HU := hid_of (uneq_any _ _ _ _ W5 hia hib)
  rw [hs3] at HU
  have b05 : Below w.heap.size w W5 := hbel.trans (hbel5.mono hbel.size)
  have a0' : W3.cell? ⟨w.heap.size, 0, none⟩ = some (.int .u32 a0) := hba.cell 0
  have a1' : W3.cell? ⟨w.heap.size, 1, none⟩ = some (.int .u32 a1) := hba.cell 1
  have a2' : W3.cell? ⟨w.heap.size, 2, none⟩ = some (.int .u32 a2) := hba.cell 2
  have b0' : W3.cell? ⟨w.heap.size + 1, 0, none⟩ = some (.int .u32 b0) := hbb.cell 0
  have b1' : W3.cell? ⟨w.heap.size + 1, 1, none⟩ = some (.int .u32 b1) := hbb.cell 1
  have b2' : W3.cell? ⟨w.heap.size + 1, 2, none⟩ = some (.int .u32 b2) := hbb.cell 2
  have h0' := ca1 W3 (.cells #[.int .u32 a0, .int .u32 a1, .int .u32 a2] 30) _ _ b0'
  have h1' := ca1 W3 (.cells #[.int .u32 a0, .int .u32 a1, .int .u32 a2] 30) _ _ b1'
  have h2' := ca1 W3 (.cells #[.int .u32 a0, .int .u32 a1, .int .u32 a2] 30) _ _ b2'
  have HBE := hid_of b05
  have HBR := hid_of h
  have HP := hid_of hp
  obtain ⟨t, ht⟩ : ∃ t, neB ⟨a0, a1, a2⟩ ⟨b0, b1, b2⟩ = t := ⟨_, rfl⟩
  have HE : Hid (cmpF B site ⟨a0, a1, a2⟩ ⟨b0, b1, b2⟩ = (bits BinOp.and IntKind.u32 (B.pass site (if t = true then 1 else 0)) 1 == 1)) := by unfold Hid cmpF; rw [ht]
  rw [HE.out]
  rw [ht] at HU
  obtain ⟨y, hy⟩ : ∃ y : Int, (if t = true then 1 else 0) = y := ⟨_, rfl⟩
  rw [hy]
  obtain ⟨z, hz⟩ : ∃ z, (bits BinOp.and IntKind.u32 (B.pass site y) 1 == 1) = z := ⟨_, rfl⟩
  rw [hz]
  have HY := hid_of hy
  clear h hp hia hib hbel5 hbel hba hbb b05 ht HE b0' b1' b2' hy
  unfold buV
  go_enter Try.func65, Try.ntmps65
  go_upto_region 1 with fail
  clear hW3
  refine wp_region_list ?_
  go_wp2_with fail
  clear hW5
  refine HU.out.mono ?_
  rintro e w1 ⟨rfl, hb1⟩
  have HB1 : Hid (Below w.heap.size w w1) := HBE.out.trans (hb1.mono HBE.out.size)
  clear hb1 HU HBE a0' a1' a2' h0' h1' h2' hs3
  go_upto_region 2 with fail
  have HR1 : Hid (BR w1.drew bb cb fv B) := (HBR.out.below HB1.out).drew'
  have HP1 : Hid (w1.drew.cell? ⟨pb, 0, none⟩ = some (.pointer (some ⟨bb, 0, none⟩))) := by
    have := HP.out
    have hl := World.block_lt_of_cell? _ _ this
    have e := HB1.out.block _ hl
    show w1.cell? _ = _
    simp only [World.cell?] at this ⊢; rw [e]; exact this
  have HF := hid_of (flag_any t w1.drew)
  have HPS := hid_of (pass_any bb site hs fv B.fs B.now (if t = true then 1 else 0) w1.drew HR1.out.fr)
  have hpe : Hid (wireF B.now site B.fs (dropF B.now site B.fs (if t = true then 1 else 0)) = B.pass site (if t = true then 1 else 0)) := rfl
  rw [hpe.out] at HPS
  have hy := HY.out
  rw [hy] at HF HPS
  clear hy hpe
  refine wp_region_float [0, 1, 2, 3, 4, 5] [6, 7, 8, 9, 10] [0, 1, 2, 4, 5] mixed (fun ω => ω.cell? ⟨pb, 0, none⟩ = some (.pointer (some ⟨bb, 0, none⟩))) (by kernel_rfl) rfl (by kernel_rfl) HP1.out ?_
  iterate 3 refine wpFl_op _ _ _ _ rfl rfl (fun ω hj => by go_simp; rfl) ?_
  refine wpFl_op _ _ _ _ rfl rfl (fun ω hj => by have q := hj rfl; go_simp; rfl) ?_
  iterate 2 refine wpFl_op _ _ _ _ rfl rfl (fun ω hj => by go_simp; rfl) ?_
  refine wpFl_nil _ _ ?_
  simp only [Act.put, List.setIfInBounds_toArray]
  refine wpCh_one _ _ _ _ rfl ?_
  go_wp2_with fail
  refine HF.out.mono ?_
  rintro e w2 ⟨rfl, hw2⟩
  obtain rfl := hw2.symm
  clear HF
  go_wp2_with fail
  refine ⟨HP1.out, ?_⟩
  refine wpCh_rest _ _ _ _ [_, _, _, _] _ _ rfl (by kernel_rfl) ?_
  simp only [List.getElem_toArray, List.getElem_cons_succ, List.getElem_cons_zero]
  go_wp2_with fail
  refine HPS.out.mono ?_
  rintro e w2 ⟨rfl, hb2⟩
  have HB2 : Hid (Below w.heap.size w w2) := HB1.out.trans ((show Below w1.heap.size w1 w2 from ⟨hb2.os, hb2.tape, hb2.output, hb2.size, hb2.block⟩).mono HB1.out.size)
  clear hb2 HPS HB1 HR1 HP1 HBR HP
  go_wp2_with fail
  go_ret
  exact ⟨rfl, HB2.out⟩
end Go.Proofs.Qxb6500749a
