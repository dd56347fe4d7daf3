import Derived.Test.Qxb6500749aLx3
namespace Go.Proofs.Qxb6500749a
open Go.RowKit
attribute [local go_sem] put_size put_cell_same put_cell_ne put_frozen_same put_frozen_ne put_setCell_same put_setCell_ne put_drew
attribute [local go_sem] drewN_setCell drewN_alloc drewN_put
/-! ### Law 3: the interpreter's state, laid for the comparison -/
set_option linter.unusedVariables false in
set_option linter.unusedSimpArgs false in
set_option maxRecDepth 100000 in
set_option maxHeartbeats 16000000 in
theorem reg17 (rg mb mm : Nat) (pv gv : Value) (M : IM) (WZ : World) (HMC : Hid (∀ ω, Below WZ.heap.size WZ ω → Blk ω mb (mV pv mm M gv) 46))
    (KR : Act → World → Prop) (HKR : Hid (∀ (act : Act) (w' : World), act = fr3t rg WZ.heap.size (fun i => act.tmps.getD i undef) → w' = (WZ.alloc (.cells #[.int .u32 (M.r 0), .int .u32 (M.r 1), .int .u32 (M.r 2), .int .u32 (M.r 3), .int .u32 (M.r 4), .int .u32 (M.r 5), .int .u32 (M.r 6), .int .u32 (M.r 7), .int .u32 (M.r 8), .int .u32 (M.r 9), .int .u32 (M.r 10), .int .u32 (M.r 11), .int .u32 (M.r 12), .int .u32 (M.r 13), .int .u32 (M.r 14), .int .u32 (M.r 15), .int .u32 M.pc] 55)).drew → KR act w')) (Q0 : Exit → Act → World → Prop)
    (code : Code) (hcode : code = (Try.f3.body.bind (findR 17)).getD .skip) (u : Nat → Value) : code.wp Try.prog (Exit.then KR Q0) (fr3v rg mb u) WZ := by
  subst hcode
  conv => arg 2; whnf
  unfold fr3v
  have HDD : Hid (Below WZ.heap.size WZ WZ.drew) := ⟨rfl, rfl, rfl, Nat.le_refl _, fun _ _ => rfl⟩
  refine wp_region_float [0, 1, 2, 3, 4, 5, 6, 7, 8] [9, 10] [0, 1, 2, 4, 5, 6, 8] mixed (fun ω => Below WZ.heap.size WZ ω) (by kernel_rfl) rfl (by kernel_rfl) HDD.out ?_
  refine wpFl_op _ _ _ _ rfl rfl (fun ω hj => by go_simp; rfl) ?_
  simp only [List.getElem_toArray, List.getElem_cons_succ, List.getElem_cons_zero, Act.put, List.setIfInBounds_toArray, List.set_cons_succ, List.set_cons_zero]
  refine wpFl_op _ _ _ _ rfl rfl (fun ω hj => by go_simp; rfl) ?_
  simp only [List.getElem_toArray, List.getElem_cons_succ, List.getElem_cons_zero, Act.put, List.setIfInBounds_toArray, List.set_cons_succ, List.set_cons_zero]
  refine wpFl_op _ _ _ _ rfl rfl (fun ω hj => by go_simp; rfl) ?_
  simp only [List.getElem_toArray, List.getElem_cons_succ, List.getElem_cons_zero, Act.put, List.setIfInBounds_toArray, List.set_cons_succ, List.set_cons_zero]
  refine wpFl_op _ _ _ _ rfl rfl (fun ω hj => by
    have m0 : ω.cell? ⟨mb, 2, none⟩ = some (.int .u32 (M.r 0)) := (HMC.out ω (hj rfl)).cell 2
    have m1 : ω.cell? ⟨mb, 3, none⟩ = some (.int .u32 (M.r 1)) := (HMC.out ω (hj rfl)).cell 3
    have m2 : ω.cell? ⟨mb, 4, none⟩ = some (.int .u32 (M.r 2)) := (HMC.out ω (hj rfl)).cell 4
    have m3 : ω.cell? ⟨mb, 5, none⟩ = some (.int .u32 (M.r 3)) := (HMC.out ω (hj rfl)).cell 5
    have m4 : ω.cell? ⟨mb, 6, none⟩ = some (.int .u32 (M.r 4)) := (HMC.out ω (hj rfl)).cell 6
    have m5 : ω.cell? ⟨mb, 7, none⟩ = some (.int .u32 (M.r 5)) := (HMC.out ω (hj rfl)).cell 7
    have m6 : ω.cell? ⟨mb, 8, none⟩ = some (.int .u32 (M.r 6)) := (HMC.out ω (hj rfl)).cell 8
    have m7 : ω.cell? ⟨mb, 9, none⟩ = some (.int .u32 (M.r 7)) := (HMC.out ω (hj rfl)).cell 9
    have m8 : ω.cell? ⟨mb, 10, none⟩ = some (.int .u32 (M.r 8)) := (HMC.out ω (hj rfl)).cell 10
    have m9 : ω.cell? ⟨mb, 11, none⟩ = some (.int .u32 (M.r 9)) := (HMC.out ω (hj rfl)).cell 11
    have m10 : ω.cell? ⟨mb, 12, none⟩ = some (.int .u32 (M.r 10)) := (HMC.out ω (hj rfl)).cell 12
    have m11 : ω.cell? ⟨mb, 13, none⟩ = some (.int .u32 (M.r 11)) := (HMC.out ω (hj rfl)).cell 13
    have m12 : ω.cell? ⟨mb, 14, none⟩ = some (.int .u32 (M.r 12)) := (HMC.out ω (hj rfl)).cell 14
    have m13 : ω.cell? ⟨mb, 15, none⟩ = some (.int .u32 (M.r 13)) := (HMC.out ω (hj rfl)).cell 15
    have m14 : ω.cell? ⟨mb, 16, none⟩ = some (.int .u32 (M.r 14)) := (HMC.out ω (hj rfl)).cell 16
    have m15 : ω.cell? ⟨mb, 17, none⟩ = some (.int .u32 (M.r 15)) := (HMC.out ω (hj rfl)).cell 17
    go_simp; rfl) ?_
  simp only [List.getElem_toArray, List.getElem_cons_succ, List.getElem_cons_zero, Act.put, List.setIfInBounds_toArray, List.set_cons_succ, List.set_cons_zero]
  refine wpFl_op _ _ _ _ rfl rfl (fun ω hj => by go_simp; rfl) ?_
  simp only [List.getElem_toArray, List.getElem_cons_succ, List.getElem_cons_zero, Act.put, List.setIfInBounds_toArray, List.set_cons_succ, List.set_cons_zero]
  refine wpFl_op _ _ _ _ rfl rfl (fun ω hj => by go_simp; rfl) ?_
  simp only [List.getElem_toArray, List.getElem_cons_succ, List.getElem_cons_zero, Act.put, List.setIfInBounds_toArray, List.set_cons_succ, List.set_cons_zero]
  refine wpFl_op _ _ _ _ rfl rfl (fun ω hj => by go_simp; rfl) ?_
  simp only [List.getElem_toArray, List.getElem_cons_succ, List.getElem_cons_zero, Act.put, List.setIfInBounds_toArray, List.set_cons_succ, List.set_cons_zero]
  refine wpFl_op _ _ _ _ rfl rfl (fun ω hj => by have m1 : ω.cell? ⟨mb, 18, none⟩ = some (.int .u32 M.pc) := (HMC.out ω (hj rfl)).cell 18; go_simp; rfl) ?_
  simp only [List.getElem_toArray, List.getElem_cons_succ, List.getElem_cons_zero, Act.put, List.setIfInBounds_toArray, List.set_cons_succ, List.set_cons_zero]
  refine wpFl_op _ _ _ _ rfl rfl (fun ω hj => by go_simp; rfl) ?_
  simp only [List.getElem_toArray, List.getElem_cons_succ, List.getElem_cons_zero, Act.put, List.setIfInBounds_toArray, List.set_cons_succ, List.set_cons_zero]
  refine wpFl_nil _ _ ?_
  refine wpCh_one _ _ _ _ rfl ?_
  simp only [List.getElem_toArray, List.getElem_cons_succ, List.getElem_cons_zero, Act.put, List.setIfInBounds_toArray, List.set_cons_succ, List.set_cons_zero]
  go_wp2_with fail
  have HB9 : Hid (Below WZ.heap.size WZ (WZ.drew.alloc (.cells #[.int .u32 0, .int .u32 0, .int .u32 0, .int .u32 0, .int .u32 0, .int .u32 0, .int .u32 0, .int .u32 0, .int .u32 0, .int .u32 0, .int .u32 0, .int .u32 0, .int .u32 0, .int .u32 0, .int .u32 0, .int .u32 0, .int .u32 0] 55))) := HDD.out.alloc (Nat.le_refl _) _
  refine ⟨HB9.out, ?_⟩
  refine wpCh_rest _ _ _ _ [_] _ _ rfl (by kernel_rfl) ?_
  simp only [List.getElem_toArray, List.getElem_cons_succ, List.getElem_cons_zero, Act.put, List.setIfInBounds_toArray, List.set_cons_succ, List.set_cons_zero]
  go_wp2_with ((with_reducible show wpList _ _ _ ({ dst := none, op := Op.store 55 _ _, type := _, pos := _, after := _, guard := _ } :: _) _ _); refine wpList_store_row (by rfl) 55 (.tmp 6) (.tmp 116) (by rfl) WZ.drew.heap.size #[.int .u32 (M.r 0), .int .u32 (M.r 1), .int .u32 (M.r 2), .int .u32 (M.r 3), .int .u32 (M.r 4), .int .u32 (M.r 5), .int .u32 (M.r 6), .int .u32 (M.r 7), .int .u32 (M.r 8), .int .u32 (M.r 9), .int .u32 (M.r 10), .int .u32 (M.r 11), .int .u32 (M.r 12), .int .u32 (M.r 13), .int .u32 (M.r 14), .int .u32 (M.r 15), .int .u32 M.pc] (by kernel_rfl) (by kernel_rfl) 55 _ (Blk.new _ _ _) (by rw [size55]; rfl) (by rfl) (by simp [Value.oneCell']) ?_; rw [World.setRow_alloc_new])
  exact HKR.out _ _ (by kernel_rfl) rfl
end Go.Proofs.Qxb6500749a
