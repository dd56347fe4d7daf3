import Derived.Test.Qxb6500750aDoorRig
import Derived.BigQuiet
import Derived.Test.Qxb6500750aDoorReg2
namespace Go.Proofs.Qxb6500750aDoor
open Go.RowKit
attribute [local go_sem] put_size put_cell_same put_cell_ne put_frozen_same put_frozen_ne put_setCell_same put_setCell_ne put_drew
attribute [local go_sem] drewN_setCell drewN_alloc drewN_put
attribute [local go_sem] gg_0 gg_s gs_0 gs_s
/-! ### Issue at the crossbar, by the script's argument -/
def issS (x : XS) (a : Int) : Int := if 3 ≤ a then 2 else offS x a.toNat
def issQ (x : XS) (a : Int) : Int := if 3 ≤ a then 0 else if offS x a.toNat = 0 then (x.mp a.toNat).iss else 0
def issX (x : XS) (a : Int) (r : Req) : XS := if 3 ≤ a then x else if offS x a.toNat = 0 then offX x a.toNat r else x
structure IssOK (x : XS) : Prop where
  a : ∀ m, m < 3 → 0 ≤ (x.mp m).iss - (x.mp m).rt
  b : ∀ m, m < 3 → (x.mp m).iss < 4294967295
  c : ∀ m, m < 3 → 0 ≤ (x.mp m).rt
theorem issue_x (own : Nat → Nat) (xb : Nat) (pbs : Nat → Nat) (σ : SS) (a : Int) (r : Req) (ha : 0 ≤ a) (hok : IssOK σ.x) (w : World) (h : XRep own w xb pbs σ) :
    Calls Tryd.prog 47 #[.pointer (some ⟨xb, 0, none⟩), .int .i64 (idx a), .agg #[.bool r.w, .int .u32 r.ad, .int .u32 r.da]] w fun e w' => e = .returned (.tuple #[.int .u32 (issQ σ.x a), .int .u8 (issS σ.x a)]) ∧ XRep own w' xb pbs { σ with x := issX σ.x a r } ∧ Ext own own (· ≤ 6) w w' := by
  unfold issQ issS issX
  by_cases h3 : 3 ≤ a
  · rw [if_pos h3, if_pos h3, if_pos h3]
    refine (issue_none xb (idx a) r (by unfold idx; split <;> omega) w).mono ?_
    rintro e w' ⟨rfl, hb⟩
    exact ⟨rfl, h.ext (Ext.of_below (S := fun _ => False) hb) (fun _ _ h => h), Ext.of_below hb⟩
  · rw [if_neg h3, if_neg h3, if_neg h3]
    have hm : a.toNat < 3 := by omega
    have e1 : idx a = (a.toNat : Nat) := by unfold idx; rw [if_neg (by omega)]; omega
    rw [e1]
    have hox := h.oxb
    obtain ⟨w0, rfl, hl0⟩ := h.blk.out
    refine (issue_any (lk pbs) xb σ.x a.toNat r hm (hok.a _ hm) (hok.b _ hm) (hok.c _ hm) w0 hl0).mono ?_
    rintro e w' ⟨rfl, hb⟩
    have hb' : Below (put w0 xb (encX (lk pbs) (if offS σ.x a.toNat = 0 then offX σ.x a.toNat r else σ.x)) 132).heap.size (put w0 xb (encX (lk pbs) (if offS σ.x a.toNat = 0 then offX σ.x a.toNat r else σ.x)) 132) w' := by rw [put_size]; exact hb
    refine ⟨rfl, ?_, ?_⟩
    · have h1 := h.turn' (if offS σ.x a.toNat = 0 then offX σ.x a.toNat r else σ.x)
      exact h1.ext (Ext.of_below (S := fun _ => False) hb') (fun _ _ h => h)
    · exact (ext_put' (by rw [hox]; omega)).trans (Ext.of_below hb')
/-! ### What a step lets out -/
def encO (rf : Bool) (is sq : Int) (ρ : RepD) : Array Value := #[.bool rf, .int .u8 is, .int .u32 sq] ++ encR ρ
theorem encO_size (rf : Bool) (is sq : Int) (ρ : RepD) : (encO rf is sq ρ).size = 30 := by simp [encO, encR_size]
theorem encO_one (rf : Bool) (is sq : Int) (ρ : RepD) : (encO rf is sq ρ).all (·.oneCell') = true := by
  unfold encO; rw [encR_lit]; simp [Value.oneCell']
theorem Tryd.size43 : (Tryd.prog.info? 43).map (·.size) = some 30 := by kernel_rfl
theorem encO_lit0 (rf : Bool) (is sq : Int) : encO rf is sq rep0 = #[.bool rf, .int .u8 is, .int .u32 sq, .int .i8 0, .int .i8 0, .int .i8 0, .int .i8 0, .int .i8 0, .int .i8 0, .int .i8 0, .bool false, .int .u32 0, .int .u8 0, .int .u32 0, .int .u8 0, .int .u8 0, .bool false, .int .u32 0, .int .u8 0, .int .u32 0, .int .u8 0, .int .u8 0, .bool false, .int .u32 0, .int .u8 0, .int .u32 0, .int .u8 0, .int .u8 0, .int .u8 0, .int .u8 0] := by kernel_rfl
theorem encO_zero : encO false 0 0 rep0 = #[.bool false, .int .u8 0, .int .u32 0, .int .i8 0, .int .i8 0, .int .i8 0, .int .i8 0, .int .i8 0, .int .i8 0, .int .i8 0, .bool false, .int .u32 0, .int .u8 0, .int .u32 0, .int .u8 0, .int .u8 0, .bool false, .int .u32 0, .int .u8 0, .int .u32 0, .int .u8 0, .int .u8 0, .bool false, .int .u32 0, .int .u8 0, .int .u32 0, .int .u8 0, .int .u8 0, .int .u8 0, .int .u8 0] := by kernel_rfl
set_option maxRecDepth 100000 in
set_option maxHeartbeats 4000000 in
theorem rissue_any (own : Nat → Nat) (rg xb : Nat) (pbs : Nat → Nat) (σ : SS) (a : Int) (r : Req) (ha : 0 ≤ a) (ha1 : a < 4294967296) (hok : IssOK σ.x) (w : World) (h : RRep own w rg xb pbs σ) :
    Calls Tryd.prog 31 #[.pointer (some ⟨rg, 0, none⟩), .int .u32 a, .agg #[.bool r.w, .int .u32 r.ad, .int .u32 r.da]] w fun e w' => e = .returned (.agg (encO (decide (3 ≤ a)) (issS σ.x a) (issQ σ.x a) rep0)) ∧ ∃ own', RRep own' w' rg xb pbs { σ with x := issX σ.x a r } ∧ Ext own own' (· ≤ 6) w w' := by
  have H := hid_of h
  obtain ⟨w0, rfl, hl0⟩ := h.blk.out
  have HOK := hid_of hok
  have hia := index_any a ha ha1
  clear h hok
  go_enter Tryd.func31, Tryd.ntmps31
  go_wp2_with fail
  rw [← encO_zero]
  obtain ⟨W, hW⟩ : ∃ W, ((put w0 rg (encG (.pointer (some ⟨xb, 0, none⟩)) (lk pbs)) 49).alloc (.cells #[.bool r.w, .int .u32 r.ad, .int .u32 r.da] 91)).alloc (.cells (encO false 0 0 rep0) 43) = W := ⟨_, rfl⟩
  have hxa : Ext own (mark own w0.heap.size 50) (fun _ => False) (put w0 rg (encG (.pointer (some ⟨xb, 0, none⟩)) (lk pbs)) 49) W.drew := by
    rw [← hW]
    have h1 := Ext.alloc own (fun _ => False) (put w0 rg (encG (.pointer (some ⟨xb, 0, none⟩)) (lk pbs)) 49) (.cells #[.bool r.w, .int .u32 r.ad, .int .u32 r.da] 91) 50
    rw [put_size] at h1
    exact (h1.trans (Ext.alloc' _ _ _ _)).drew
  have HA := hid_of (H.out.ext hxa (fun _ _ h => h))
  have hB0 : Blk W.drew w0.heap.size #[.bool r.w, .int .u32 r.ad, .int .u32 r.da] 91 := by
    rw [← hW]
    have := (Blk.new (put w0 rg (encG (.pointer (some ⟨xb, 0, none⟩)) (lk pbs)) 49) #[.bool r.w, .int .u32 r.ad, .int .u32 r.da] 91).alloc (.cells (encO false 0 0 rep0) 43)
    rw [put_size] at this; exact this.drew
  have hB1 : Blk W.drew (w0.heap.size + 1) (encO false 0 0 rep0) 43 := by
    rw [← hW]
    have := Blk.new ((put w0 rg (encG (.pointer (some ⟨xb, 0, none⟩)) (lk pbs)) 49).alloc (.cells #[.bool r.w, .int .u32 r.ad, .int .u32 r.da] 91)) (encO false 0 0 rep0) 43
    simp [put_size] at this; exact this.drew
  have hcr := HA.out.blk.cell 0
  rw [gg_0] at hcr
  have hc0 := hB0.cell 0
  have hc1 := hB0.cell 1
  have hc2 := hB0.cell 2
  simp at hc0 hc1 hc2
  have ho1 : mark own w0.heap.size 50 (w0.heap.size + 1) = 50 := mark_ge (Nat.le_succ _)
  have HXA := hid_of hxa
  clear hxa hB0
  generalize mark own w0.heap.size 50 = own1 at *
  rw [hW]
  clear hW
  have HW : Hid (W.drew = W.drew) := rfl
  refine wp_region_tree [0, 1, 2, 3, 4, 5, 6] [7, 8] 4 [0, 1, 2, 4] mixed (fun ω => ω = W.drew) (by kernel_rfl) rfl (by kernel_rfl) rfl ?_
  iterate 5 refine wpFl_op _ _ _ _ rfl rfl (fun ω hj => by first | (obtain rfl := hj rfl; go_simp; rfl) | (go_simp; rfl)) ?_
  refine wpFl_call _ _ _ _ 35 #[.int .u32 a] rfl rfl (fun ω => by go_simp) (fun ω hj => hia ω) ?_
  iterate 1 refine wpFl_op _ _ _ _ rfl rfl (fun ω hj => by first | (obtain rfl := hj rfl; go_simp; rfl) | (go_simp; rfl)) ?_
  refine wpFl_nil _ _ ?_
  simp only [Act.put, List.setIfInBounds_toArray]
  refine wpCh_rest _ _ _ _ [_, _] _ _ rfl (by kernel_rfl) ?_
  simp only [List.getElem_toArray, List.getElem_cons_succ, List.getElem_cons_zero]
  go_wp2_with fail
  refine (issue_x own1 xb pbs σ a r ha HOK.out _ HA.out.x).mono ?_
  rintro e w2 ⟨rfl, h2, hx2⟩
  have hBr : Blk w2 rg (encG (.pointer (some ⟨xb, 0, none⟩)) (lk pbs)) 49 := HA.out.blk.ext hx2 (by rw [HA.out.org]; omega)
  have hB2 : Blk w2 (w0.heap.size + 1) (encO false 0 0 rep0) 43 := hB1.ext hx2 (by rw [ho1]; omega)
  have HX2 := hid_of (HXA.out.mono (S' := (· ≤ 6)) (fun _ h => h.elim) |>.trans hx2)
  have HA2 : Hid (RRep own1 w2 rg xb pbs { σ with x := issX σ.x a r }) := ⟨hBr, HA.out.org, h2⟩
  have HB2 := hid_of hB2
  have HF1 : Hid (RRep own1 (put w2 (w0.heap.size + 1) (encO (decide (3 ≤ a)) (issS σ.x a) (issQ σ.x a) rep0) 43) rg xb pbs { σ with x := issX σ.x a r }) := HA2.out.ext (Ext.put (S := (· = 50)) ho1) (fun k hk e => by omega)
  have HF2 : Hid (Ext own own1 (· ≤ 6) (put w0 rg (encG (.pointer (some ⟨xb, 0, none⟩)) (lk pbs)) 49) (put w2 (w0.heap.size + 1) (encO (decide (3 ≤ a)) (issS σ.x a) (issQ σ.x a) rep0) 43)) := HX2.out.shut (Below.put (Below.refl _ _) (by rw [put_size]; omega) _ _)
  clear h2 hx2 hBr hcr hc0 hc1 hc2 hB1 hB2
  go_wp2_with fail
  refine wpAnyJ_step _ _ _ _ [9, 10] (by kernel_rfl) rfl (by kernel_rfl) ?_
  intro i hi
  simp only [List.mem_cons, List.not_mem_nil, or_false] at hi
  rcases hi with rfl | rfl
  · refine wpOp_list _ rfl ?_
    go_wp2_with fail
    refine wpAnyJ_step _ _ _ _ [10, 11] (by kernel_rfl) rfl (by kernel_rfl) ?_
    intro i hi
    simp only [List.mem_cons, List.not_mem_nil, or_false] at hi
    rcases hi with rfl | rfl
    · refine wpOp_list _ rfl ?_
      go_wp2_with fail
      refine wpAnyJ_step _ _ _ _ [11] (by kernel_rfl) rfl (by kernel_rfl) ?_
      intro i hi
      obtain rfl : i = 11 := by simpa using hi
      refine wpOp_list _ rfl ?_
      go_wp2_with fail
      refine wpAnyJ_step _ _ _ _ [12] (by kernel_rfl) rfl (by kernel_rfl) ?_
      intro i hi
      obtain rfl : i = 12 := by simpa using hi
      refine wpOp_list _ rfl ?_
      go_wp2_with fail
      refine wpAnyJ_end _ _ _ _ (by kernel_rfl) ?_
      go_wp2_with ((with_reducible show wpList _ _ _ ({ dst := none, op := Op.store 43 _ _, type := _, pos := _, after := _, guard := _ } :: _) _ _); rw [← encO_lit0]; refine wpList_store_row (by rfl) 43 (.tmp 6) (.tmp 24) (by rfl) (w0.heap.size + 1) (encO (decide (3 ≤ a)) (issS σ.x a) (issQ σ.x a) rep0) (by rfl) (by rfl) 43 (encO false 0 0 rep0) HB2.out (by rw [Tryd.size43, encO_size]) (by rw [encO_size, encO_size]) (encO_one _ _ _ _) ?_; rw [setRow_put HB2.out])
      exact bodyPost_ret (v := .agg (encO (decide (3 ≤ a)) (issS σ.x a) (issQ σ.x a) rep0)) (results_cell_row (by rfl) _ _ (w0.heap.size + 1) 43 _ (0, 0) _ (by rfl) (Blk.put_same HB2.out.lt) Tryd.underlying43 rfl (by rw [Tryd.size43, encO_size])) rfl ⟨rfl, own1, HF1.out, HF2.out⟩
    · refine wpOp_list _ rfl ?_
      go_wp2_with fail
      refine wpAnyJ_step _ _ _ _ [10] (by kernel_rfl) rfl (by kernel_rfl) ?_
      intro i hi
      obtain rfl : i = 10 := by simpa using hi
      refine wpOp_list _ rfl ?_
      go_wp2_with fail
      refine wpAnyJ_step _ _ _ _ [12] (by kernel_rfl) rfl (by kernel_rfl) ?_
      intro i hi
      obtain rfl : i = 12 := by simpa using hi
      refine wpOp_list _ rfl ?_
      go_wp2_with fail
      refine wpAnyJ_end _ _ _ _ (by kernel_rfl) ?_
      go_wp2_with ((with_reducible show wpList _ _ _ ({ dst := none, op := Op.store 43 _ _, type := _, pos := _, after := _, guard := _ } :: _) _ _); rw [← encO_lit0]; refine wpList_store_row (by rfl) 43 (.tmp 6) (.tmp 24) (by rfl) (w0.heap.size + 1) (encO (decide (3 ≤ a)) (issS σ.x a) (issQ σ.x a) rep0) (by rfl) (by rfl) 43 (encO false 0 0 rep0) HB2.out (by rw [Tryd.size43, encO_size]) (by rw [encO_size, encO_size]) (encO_one _ _ _ _) ?_; rw [setRow_put HB2.out])
      exact bodyPost_ret (v := .agg (encO (decide (3 ≤ a)) (issS σ.x a) (issQ σ.x a) rep0)) (results_cell_row (by rfl) _ _ (w0.heap.size + 1) 43 _ (0, 0) _ (by rfl) (Blk.put_same HB2.out.lt) Tryd.underlying43 rfl (by rw [Tryd.size43, encO_size])) rfl ⟨rfl, own1, HF1.out, HF2.out⟩
  · refine wpOp_list _ rfl ?_
    go_wp2_with fail
    refine wpAnyJ_step _ _ _ _ [9] (by kernel_rfl) rfl (by kernel_rfl) ?_
    intro i hi
    obtain rfl : i = 9 := by simpa using hi
    refine wpOp_list _ rfl ?_
    go_wp2_with fail
    refine wpAnyJ_step _ _ _ _ [11] (by kernel_rfl) rfl (by kernel_rfl) ?_
    intro i hi
    obtain rfl : i = 11 := by simpa using hi
    refine wpOp_list _ rfl ?_
    go_wp2_with fail
    refine wpAnyJ_step _ _ _ _ [12] (by kernel_rfl) rfl (by kernel_rfl) ?_
    intro i hi
    obtain rfl : i = 12 := by simpa using hi
    refine wpOp_list _ rfl ?_
    go_wp2_with fail
    refine wpAnyJ_end _ _ _ _ (by kernel_rfl) ?_
    go_wp2_with ((with_reducible show wpList _ _ _ ({ dst := none, op := Op.store 43 _ _, type := _, pos := _, after := _, guard := _ } :: _) _ _); rw [← encO_lit0]; refine wpList_store_row (by rfl) 43 (.tmp 6) (.tmp 24) (by rfl) (w0.heap.size + 1) (encO (decide (3 ≤ a)) (issS σ.x a) (issQ σ.x a) rep0) (by rfl) (by rfl) 43 (encO false 0 0 rep0) HB2.out (by rw [Tryd.size43, encO_size]) (by rw [encO_size, encO_size]) (encO_one _ _ _ _) ?_; rw [setRow_put HB2.out])
    exact bodyPost_ret (v := .agg (encO (decide (3 ≤ a)) (issS σ.x a) (issQ σ.x a) rep0)) (results_cell_row (by rfl) _ _ (w0.heap.size + 1) 43 _ (0, 0) _ (by rfl) (Blk.put_same HB2.out.lt) Tryd.underlying43 rfl (by rw [Tryd.size43, encO_size])) rfl ⟨rfl, own1, HF1.out, HF2.out⟩
end Go.Proofs.Qxb6500750aDoor
