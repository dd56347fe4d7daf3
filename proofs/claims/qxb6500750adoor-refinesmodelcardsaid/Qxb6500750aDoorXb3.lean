import Derived.Test.Qxb6500750aDoorXb2
namespace Go.Proofs.Qxb6500750aDoor
open Go.RowKit
attribute [local go_sem] put_size put_cell_same put_cell_ne put_frozen_same put_frozen_ne put_setCell_same put_setCell_ne put_drew
attribute [local go_sem] drewN_setCell drewN_alloc drewN_put
attribute [local go_sem] xg_s0 xg_s1 xg_s2 xg_s3 xg_s4 xg_s5 xg_s6 xg_s7 xg_s8 xg_s9 xg_m0 xg_m1 xg_m2 xg_m3 xg_m4 xg_t0 xg_t1 xg_t2 xg_t3 xg_t4 xg_t5 xg_t6
attribute [local go_sem] mod4_lt mod4_nn mod4_lt'
/-- The links, as the crossbar holds them. -/
def lk (pbs : Nat → Nat) (t : Nat) : Value := if t < 6 then .pointer (some ⟨pbs t, 0, none⟩) else .pointer none
theorem lk_lt (pbs : Nat → Nat) (t : Nat) (h : t < 6) : lk pbs t = .pointer (some ⟨pbs t, 0, none⟩) := if_pos h
theorem lk_6 (pbs : Nat → Nat) : lk pbs 6 = .pointer none := rfl
def slotOf (x : XS) (t : Nat) : Slot := (x.mp (x.tp t).m.toNat).sl ((x.tp t).sq % 4).toNat
def mkReq (x : XS) (t : Nat) : LReq := ⟨lid (x.tp t).m (x.tp t).sq, (slotOf x t).req.w, (slotOf x t).req.ad, (slotOf x t).req.da⟩

set_option maxHeartbeats 1000000 in
theorem xsend_link (own : Nat → Nat) (xb t : Nat) (pbs : Nat → Nat) (x : XS) (q : PS) (ht : t < 6) (hm : 0 ≤ (x.tp t).m ∧ (x.tp t).m < 3) (hs : 0 ≤ (x.tp t).sq) (hb : q.busy = false) (w : World)
    (hB : Blk w xb (encX (lk pbs) x) 132) (h : PR own t w (pbs t) q)
    (hpl : ∀ p ∈ q.plans, 0 ≤ p.o ∧ p.o < 6 ∧ 0 ≤ p.l ∧ p.l < 4294967296) (hn : q.plans.length ≤ 8) (ha : q.atts.length < 1000000000) :
    Calls Tryd.prog 63 #[.pointer (some ⟨xb, 0, none⟩), .pointer (some ⟨xb, 135 + t * 7, none⟩)] w fun e w' => e = .returned (.tuple #[]) ∧ ∃ own', PR own' t w' (pbs t) (sendP q (mkReq x t)) ∧ Ext own own' (· = t) w w' := by
  obtain ⟨hm0, hm1⟩ := hm
  have hmn : (x.tp t).m.toNat < 3 := by omega
  have ht7 : t < 7 := by omega
  have hk := lk_lt pbs t ht
  have Hh := hid_of h
  have Hpl := hid_of hpl
  clear h hpl
  obtain ⟨w0, rfl, hlt⟩ := hB.out
  clear hB
  go_enter Tryd.func63, Tryd.ntmps63
  go_wp2_with fail
  refine wp_region_float [0, 1, 2, 3, 4, 5, 6, 7, 8, 9, 10, 11, 12, 13, 14, 15] [16, 17] [0, 1, 2, 3, 5, 6, 7, 8, 9, 10, 12, 13, 14] mixed (fun ω => Blk ω xb (encX (lk pbs) x) 132) (by kernel_rfl) rfl (by kernel_rfl) (by exact Blk.put_same hlt) ?_
  iterate 12 refine wpFl_op _ _ _ _ rfl rfl (fun ω hj => by first | (obtain ⟨ω0, rfl, hl0⟩ := (hj rfl).out; go_simp; rfl) | (go_simp; rfl)) ?_
  refine wpFl_call _ _ _ _ 51 _ rfl rfl (fun ω => by go_simp; rfl) (fun ω hj => slot_any xb _ _ hs ω) ?_
  iterate 3 refine wpFl_op _ _ _ _ rfl rfl (fun ω hj => by first | (obtain ⟨ω0, rfl, hl0⟩ := (hj rfl).out; go_simp; rfl) | (go_simp; rfl)) ?_
  refine wpFl_nil _ _ ?_
  simp only [Act.put, List.setIfInBounds_toArray]
  refine wpCh_one _ _ _ _ rfl ?_
  simp only [List.getElem_toArray, List.getElem_cons_succ, List.getElem_cons_zero]
  go_wp2_with fail
  refine ⟨(Blk.put_same hlt).alloc _, ?_⟩
  refine wpCh_rest _ _ _ _ [_] _ _ rfl (by kernel_rfl) ?_
  simp only [List.getElem_toArray, List.getElem_cons_succ, List.getElem_cons_zero]
  go_wp2_with fail
  have hl1 := linkID_any (x.tp t).m (x.tp t).sq ⟨hm0, hm1⟩ hs
  refine wp_region_float [0, 1, 2, 3, 4, 5, 6, 7, 8, 9, 10, 11, 12, 13, 14, 15, 16, 17, 18, 19] [20] [0, 1, 2, 4, 5, 6, 8, 9, 10, 12, 13, 15, 17, 19] mixed (fun ω => ω = ((put w0 xb (encX (lk pbs) x) 132).alloc (.cells #[.bool (slotOf x t).req.w, .int .u32 (slotOf x t).req.ad, .int .u32 (slotOf x t).req.da] 91)).drewN 2) (by kernel_rfl) rfl (by kernel_rfl) rfl ?_
  iterate 12 refine wpFl_op _ _ _ _ rfl rfl (fun ω hj => by first | (obtain rfl := hj rfl; go_simp; rfl) | (go_simp; rfl)) ?_
  refine wpFl_call _ _ _ _ 70 #[.int .u8 (x.tp t).m, .int .u32 (x.tp t).sq] rfl rfl (fun ω => by go_simp) (fun ω hj => hl1 ω) ?_
  iterate 7 refine wpFl_op _ _ _ _ rfl rfl (fun ω hj => by first | (obtain rfl := hj rfl; go_simp; rfl) | (go_simp; rfl)) ?_
  refine wpFl_nil _ _ ?_
  simp only [Act.put, List.setIfInBounds_toArray]
  refine wpCh_rest _ _ _ _ [_] _ _ rfl (by kernel_rfl) ?_
  simp only [List.getElem_toArray, List.getElem_cons_succ, List.getElem_cons_zero]
  have hx : Ext own (mark own w0.heap.size 50) (fun _ => False) (put w0 xb (encX (lk pbs) x) 132) (((put w0 xb (encX (lk pbs) x) 132).alloc (.cells #[.bool (slotOf x t).req.w, .int .u32 (slotOf x t).req.ad, .int .u32 (slotOf x t).req.da] 91)).drewN 2) := by
    have := Ext.alloc own (fun _ => False) (put w0 xb (encX (lk pbs) x) 132) (.cells #[.bool (slotOf x t).req.w, .int .u32 (slotOf x t).req.ad, .int .u32 (slotOf x t).req.da] 91) 50
    rw [put_size] at this
    exact this.drewN 2
  go_wp2_with fail
  refine (send_pr _ t (pbs t) q (mkReq x t) hb _ (Hh.out.ext hx (fun h => h)) Hpl.out hn ha).mono ?_
  rintro e w1 ⟨rfl, own1, h1, h2⟩
  go_wp2_with fail
  go_end0
  exact ⟨rfl, own1, h1, (hx.mono (fun _ h => h.elim)).trans h2⟩
end Go.Proofs.Qxb6500750aDoor
