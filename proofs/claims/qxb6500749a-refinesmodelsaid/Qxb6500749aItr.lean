import Derived.Test.Qxb6500749aSy4
import Derived.Test.Qxb6500749aMst
import Derived.Test.Qxb6500749aDsn
import Derived.Test.Qxb6500749aReg4
import Derived.ChangeKeysEq
namespace Go.Proofs.Qxb6500749a
open Go.RowKit
attribute [local go_sem] put_size put_cell_same put_cell_ne put_frozen_same put_frozen_ne put_setCell_same put_setCell_ne put_drew
attribute [local go_sem] drewN_setCell drewN_alloc drewN_put
/-! ### Two states compared -/
theorem items_same (e : TypeId) (he : Try.prog.underlying e = some (.int .u32)) (d : Nat) (xs : Array Value) (w : World) : ∀ is : List Nat, (∀ j ∈ is, ∃ v : Int, (part e xs (j * Try.prog.cellsOf e)).run Try.prog w = .ok (.int .u32 v) w) → (Op.eqItems (d + 1) e (Try.prog.cellsOf e) xs xs is).run Try.prog w = .ok true w
  | [], _ => by simp [Op.eqItems]
  | j :: is, h => by
    obtain ⟨v, hv⟩ := h j (by simp)
    have ih := items_same e he d xs w is fun k hk => h k (List.mem_cons_of_mem _ hk)
    simp only [Op.eqItems, Sem.run_bind, hv, Result.andThen_ok]
    rw [run_equalIn_int w d e .u32 .u32 v v he]
    simpa using ih
set_option maxRecDepth 100000 in
theorem eq55 (r : Nat → Int) (pc : Int) (w : World) : (Op.equalIn 10000 55 (.agg (#[.int .u32 (r 0), .int .u32 (r 1), .int .u32 (r 2), .int .u32 (r 3), .int .u32 (r 4), .int .u32 (r 5), .int .u32 (r 6), .int .u32 (r 7), .int .u32 (r 8), .int .u32 (r 9), .int .u32 (r 10), .int .u32 (r 11), .int .u32 (r 12), .int .u32 (r 13), .int .u32 (r 14), .int .u32 (r 15), .int .u32 pc])) (.agg (#[.int .u32 (r 0), .int .u32 (r 1), .int .u32 (r 2), .int .u32 (r 3), .int .u32 (r 4), .int .u32 (r 5), .int .u32 (r 6), .int .u32 (r 7), .int .u32 (r 8), .int .u32 (r 9), .int .u32 (r 10), .int .u32 (r 11), .int .u32 (r 12), .int .u32 (r 13), .int .u32 (r 14), .int .u32 (r 15), .int .u32 pc]))).run Try.prog w = .ok true w := by
  rw [show (10000 : Nat) = 9999 + 1 from rfl, run_equalIn_struct _ 9999 55 _ _ (by kernel_rfl) (by kernel_rfl)]
  obtain ⟨i, hi⟩ : ∃ i, Try.prog.info? 30 = some i := by
    have : (Try.prog.info? 30).isSome = true := by kernel_rfl
    exact Option.isSome_iff_exists.1 this
  have ha : ∀ xs : Array Value, (∀ j ∈ List.range 16, ∃ v : Int, (part 30 xs (j * Try.prog.cellsOf 30)).run Try.prog w = .ok (.int .u32 v) w) → (Op.equalIn 9999 44 (.agg xs) (.agg xs)).run Try.prog w = .ok true w := fun xs h => by
    rw [show (9999 : Nat) = 9998 + 1 from rfl, run_equalIn_array (P := Try.prog) (w := w) 9998 (t := 44) (e := 30) (n := 16) xs xs Try.underlying44 hi]
    exact items_same 30 Try.underlying30 9997 xs w (List.range 16) h
  have hb := ha #[.int .u32 (r 0), .int .u32 (r 1), .int .u32 (r 2), .int .u32 (r 3), .int .u32 (r 4), .int .u32 (r 5), .int .u32 (r 6), .int .u32 (r 7), .int .u32 (r 8), .int .u32 (r 9), .int .u32 (r 10), .int .u32 (r 11), .int .u32 (r 12), .int .u32 (r 13), .int .u32 (r 14), .int .u32 (r 15)] (fun j hj => by
    have hj2 : j < 16 := by simpa using hj
    refine ⟨r j, ?_⟩
    clear hj
    obtain rfl | rfl | rfl | rfl | rfl | rfl | rfl | rfl | rfl | rfl | rfl | rfl | rfl | rfl | rfl | rfl : j = 0 ∨ j = 1 ∨ j = 2 ∨ j = 3 ∨ j = 4 ∨ j = 5 ∨ j = 6 ∨ j = 7 ∨ j = 8 ∨ j = 9 ∨ j = 10 ∨ j = 11 ∨ j = 12 ∨ j = 13 ∨ j = 14 ∨ j = 15 := by omega
    all_goals kernel_rfl)
  simp [Op.eqFields, go_sem, hb]
/-! ### The interpreter at the start of the scene -/
set_option linter.unusedSimpArgs false in
set_option maxRecDepth 100000 in
set_option maxHeartbeats 4000000 in
theorem interp_any (own : Nat → Nat) (L : LY) (R : RG) (w : World) (h : RR own w L R) :
    Calls Try.prog 14 #[.pointer (some ⟨L.rg, 0, none⟩)] w fun e w' => ∃ nb mm, e = .returned (.pointer (some ⟨nb, 0, none⟩)) ∧ MR w' nb mm L.pv (.slice none 0 0) R.prog (im0 R.img) ∧ Below w.heap.size w w' ∧ w.heap.size ≤ nb ∧ w.heap.size ≤ mm := by
  have hD := h.drew
  have HJ0 : Hid (w.drew.cell? ⟨L.rg, 0, none⟩ = some L.pv ∧ w.drew.cell? ⟨L.rg, 1, none⟩ = some (.map (some L.img))) := ⟨hD.rg.1.cell 0, hD.rg.1.cell 1⟩
  have HCL := hid_of (mclone_any L.img R.img w.drew hD.img.1)
  have HRR := hid_of hD
  obtain ⟨pa, pcap, hpv⟩ := h.prog.1.form'
  obtain ⟨pn, hpn⟩ : ∃ pn, R.prog.length = pn := ⟨_, rfl⟩
  rw [hpn] at hpv
  clear hpn
  rw [hpv] at HJ0 ⊢
  have HPV := hid_of hpv
  clear h hD hpv
  go_enter Try.func14, Try.ntmps14
  go_upto_region 1 with fail
  refine wp_region_float [0, 1, 2, 3, 4, 5, 6, 7] [8, 9, 10, 11] [0, 1, 2, 4, 5, 6] mixed (fun ω => ω.cell? ⟨L.rg, 0, none⟩ = some (.slice pa pn pcap) ∧ ω.cell? ⟨L.rg, 1, none⟩ = some (.map (some L.img))) (by kernel_rfl) rfl (by kernel_rfl) HJ0.out ?_
  refine wpFl_op _ _ _ _ rfl rfl (fun ω hj => by first | (go_simp; rfl) | (have j1 := (hj rfl).1; have j2 := (hj rfl).2; go_simp; rfl)) ?_
  simp only [List.getElem_toArray, List.getElem_cons_succ, List.getElem_cons_zero, Act.put, List.setIfInBounds_toArray, List.set_cons_succ, List.set_cons_zero]
  refine wpFl_op _ _ _ _ rfl rfl (fun ω hj => by first | (go_simp; rfl) | (have j1 := (hj rfl).1; have j2 := (hj rfl).2; go_simp; rfl)) ?_
  simp only [List.getElem_toArray, List.getElem_cons_succ, List.getElem_cons_zero, Act.put, List.setIfInBounds_toArray, List.set_cons_succ, List.set_cons_zero]
  refine wpFl_op _ _ _ _ rfl rfl (fun ω hj => by first | (go_simp; rfl) | (have j1 := (hj rfl).1; have j2 := (hj rfl).2; go_simp; rfl)) ?_
  simp only [List.getElem_toArray, List.getElem_cons_succ, List.getElem_cons_zero, Act.put, List.setIfInBounds_toArray, List.set_cons_succ, List.set_cons_zero]
  refine wpFl_op _ _ _ _ rfl rfl (fun ω hj => by first | (go_simp; rfl) | (have j1 := (hj rfl).1; have j2 := (hj rfl).2; go_simp; rfl)) ?_
  simp only [List.getElem_toArray, List.getElem_cons_succ, List.getElem_cons_zero, Act.put, List.setIfInBounds_toArray, List.set_cons_succ, List.set_cons_zero]
  refine wpFl_op _ _ _ _ rfl rfl (fun ω hj => by first | (go_simp; rfl) | (have j1 := (hj rfl).1; have j2 := (hj rfl).2; go_simp; rfl)) ?_
  simp only [List.getElem_toArray, List.getElem_cons_succ, List.getElem_cons_zero, Act.put, List.setIfInBounds_toArray, List.set_cons_succ, List.set_cons_zero]
  refine wpFl_op _ _ _ _ rfl rfl (fun ω hj => by first | (go_simp; rfl) | (have j1 := (hj rfl).1; have j2 := (hj rfl).2; go_simp; rfl)) ?_
  simp only [List.getElem_toArray, List.getElem_cons_succ, List.getElem_cons_zero, Act.put, List.setIfInBounds_toArray, List.set_cons_succ, List.set_cons_zero]
  refine wpFl_op _ _ _ _ rfl rfl (fun ω hj => by first | (go_simp; rfl) | (have j1 := (hj rfl).1; have j2 := (hj rfl).2; go_simp; rfl)) ?_
  simp only [List.getElem_toArray, List.getElem_cons_succ, List.getElem_cons_zero, Act.put, List.setIfInBounds_toArray, List.set_cons_succ, List.set_cons_zero]
  refine wpFl_op _ _ _ _ rfl rfl (fun ω hj => by first | (go_simp; rfl) | (have j1 := (hj rfl).1; have j2 := (hj rfl).2; go_simp; rfl)) ?_
  simp only [List.getElem_toArray, List.getElem_cons_succ, List.getElem_cons_zero, Act.put, List.setIfInBounds_toArray, List.set_cons_succ, List.set_cons_zero]
  refine wpFl_nil _ _ ?_
  refine wpCh_one _ _ _ _ rfl ?_
  simp only [List.getElem_toArray, List.getElem_cons_succ, List.getElem_cons_zero, Act.put, List.setIfInBounds_toArray, List.set_cons_succ, List.set_cons_zero]
  go_wp2_with fail
  refine HCL.out.mono ?_
  rintro e w1 ⟨rfl, hm1, hb1⟩
  have hr1 := HRR.out.below hb1
  have HJ1 : Hid (w1.cell? ⟨L.rg, 0, none⟩ = some (.slice pa pn pcap) ∧ w1.cell? ⟨L.rg, 1, none⟩ = some (.map (some L.img))) := ⟨by rw [← HPV.out]; exact hr1.rg.1.cell 0, hr1.rg.1.cell 1⟩
  have HFIN : Hid (MR (w1.alloc (.cells #[.slice pa pn pcap, .map (some w.heap.size), .int .u32 0, .int .u32 0, .int .u32 0, .int .u32 0, .int .u32 0, .int .u32 0, .int .u32 0, .int .u32 0, .int .u32 0, .int .u32 0, .int .u32 0, .int .u32 0, .int .u32 0, .int .u32 0, .int .u32 0, .int .u32 0, .int .u32 0, .bool false, .bool false, .slice none 0 0] 46)) w1.heap.size w.heap.size (.slice pa pn pcap) (.slice none 0 0) R.prog (im0 R.img) ∧ Below w.heap.size w (w1.alloc (.cells #[.slice pa pn pcap, .map (some w.heap.size), .int .u32 0, .int .u32 0, .int .u32 0, .int .u32 0, .int .u32 0, .int .u32 0, .int .u32 0, .int .u32 0, .int .u32 0, .int .u32 0, .int .u32 0, .int .u32 0, .int .u32 0, .int .u32 0, .int .u32 0, .int .u32 0, .int .u32 0, .bool false, .bool false, .slice none 0 0] 46)) ∧ w.heap.size ≤ w1.heap.size) := by
    have hp := hr1.prog.1
    rw [HPV.out] at hp
    have hb : Below w.heap.size w w1 := ⟨hb1.os, hb1.tape, hb1.output, hb1.size, hb1.block⟩
    exact ⟨⟨Blk.new _ _ _, hp.same fun k hk => Below.heap_alloc _ _ k (hp.lt k hk), hm1.same (Below.heap_alloc _ _ _ hm1.lt), Sl.nil _ _ _⟩, hb.alloc hb.size _, hb.size⟩
  clear HCL hm1 hb1 hr1
  go_wp2_with fail
  refine ⟨HJ1.out, ?_⟩
  refine wpCh_rest _ _ _ _ [_, _, _] _ _ rfl (by kernel_rfl) ?_
  simp only [List.getElem_toArray, List.getElem_cons_succ, List.getElem_cons_zero, Act.put, List.setIfInBounds_toArray, List.set_cons_succ, List.set_cons_zero]
  go_wp2_with fail
  go_ret
  exact ⟨_, _, rfl, HFIN.out.1, HFIN.out.2.1, HFIN.out.2.2, Nat.le_refl _⟩
/-! ### The machine, read only -/
structure MK (w : World) (b mm : Nat) (pv gv : Value) (M : IM) : Prop where
  blk : Blk w b (mV pv mm M gv) 46
  log : Sl w gv 68 5 M.log.length (M.log.flatMap trow)
theorem MR.mk' {w : World} {b mm : Nat} {pv gv : Value} {prog : List Int} {M : IM} (h : MR w b mm pv gv prog M) : MK w b mm pv gv M := ⟨h.blk, h.log⟩
theorem MK.below {w w' : World} {b mm : Nat} {pv gv : Value} {M : IM} (h : MK w b mm pv gv M) (k : Below w.heap.size w w') : MK w' b mm pv gv M := ⟨(k.block _ h.blk.lt).trans h.blk, h.log.same fun b hb => k.block b (h.log.lt b hb)⟩
theorem MK.ext {own own' : Nat → Nat} {w w' : World} {b mm : Nat} {pv gv : Value} {M : IM} (h : MK w b mm pv gv M) (x : Ext own own' (fun k => k ≤ 18) w w') (h1 : own b = 50) (h2 : ∀ k, gv.ownBlock = some k → own k = 50) : MK w' b mm pv gv M :=
  ⟨(x.block b h.blk.lt (by rw [h1]; decide)).trans h.blk, h.log.same fun k hk => x.block k (h.log.lt k hk) (by rw [h2 k hk]; decide)⟩
end Go.Proofs.Qxb6500749a
