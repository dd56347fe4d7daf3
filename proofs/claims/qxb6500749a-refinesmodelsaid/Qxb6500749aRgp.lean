import Derived.Test.Qxb6500749aRig
namespace Go.Proofs.Qxb6500749a
open Go.RowKit
attribute [local go_sem] put_size put_cell_same put_cell_ne put_frozen_same put_frozen_ne put_setCell_same put_setCell_ne put_drew
attribute [local go_sem] drewN_setCell drewN_alloc drewN_put
/-! ### The DMA master pointed at a descriptor -/
def strD (D : DD) (desc : Int) : DD := { D with st := 1, ph := 0, desc := desc, fet := 0 }
set_option maxRecDepth 100000 in
set_option maxHeartbeats 4000000 in
theorem start_any (db bb cb ub : Nat) (fv : Value) (D : DD) (hst : D.st ≠ 1) (B : BD) (x : Int) (w : World) (hd : Blk w db (dmaV bb ub D) 97) (hb : BR w bb cb fv B) :
    Calls Try.prog 49 #[.pointer (some ⟨db, 0, none⟩), .int .u32 x] w fun e w' => e = .returned (.bool true) ∧ Blk w' db (dmaV bb ub (strD D x)) 97 ∧ BR w' bb cb fv (idxF B 0) ∧ Fr (fun k => k = db ∨ k = cb) w w' := by
  have hs : (D.st == 1) = false := by simpa using hst
  have hne : db ≠ cb := hd.neT hb.cel (by decide)
  have hnb : bb ≠ db := hb.blk.neT hd (by decide)
  obtain ⟨u2, hu2, hl2⟩ := hd.out
  have HB2 : Hid (BR (put u2 db (dmaV bb ub (strD D x)) 97) bb cb fv B) := by
    have hb2 : BR (put w db (dmaV bb ub (strD D x)) 97) bb cb fv B :=
      ⟨hb.blk.put_ne hnb, hb.cel.put_ne (Ne.symm hne), hb.sl.same fun k hk => put_heap_ne _ _ _ _ _ (hd.sl_ne (by decide) hb.sl k hk), hb.ok, hb.len, hb.now⟩
    have := hb2; rw [hu2, put_put] at this; exact this
  have HD2 : Hid (Blk (put u2 db (dmaV bb ub (strD D x)) 97) db (dmaV bb ub (strD D x)) 97) := Blk.put_same hl2
  have HF2 : Hid (Fr (fun k => k = db) w (put u2 db (dmaV bb ub (strD D x)) 97)) := by
    have f2 := (Fr.refl (fun k => k = db) w).put (b := db) (fun _ => rfl) (dmaV bb ub (strD D x)) 97
    conv at f2 => arg 3; rw [hu2]
    rw [put_put] at f2; exact f2
  have HU : Hid (w = put u2 db #[.pointer (some ⟨bb, 0, none⟩), .pointer (some ⟨ub, 0, none⟩), .int .u8 D.st, .int .u8 D.ph, .int .u32 D.desc, .int .i64 ((D.fet : Nat) : Int), .int .u32 D.buf, .bool D.wai] 97) := hu2
  have HLT := hid_of hl2
  clear hd hb hu2 hst
  have c2 : w.cell? ⟨db, 2, none⟩ = some (.int .u8 D.st) := by rw [HU.out, put_cell_same _ _ _ _ _ hl2]; rfl
  go_enter Try.func49, Try.ntmps49
  go_upto_region 3 with fail
  rw [HU.out]
  clear c2
  go_upto_region 4 with fail
  obtain ⟨w3, hw3⟩ : ∃ w3, put u2 db #[.pointer (some ⟨bb, 0, none⟩), .pointer (some ⟨ub, 0, none⟩), .int .u8 1, .int .u8 0, .int .u32 x, .int .i64 0, .int .u32 D.buf, .bool D.wai] 97 = w3 := ⟨_, rfl⟩
  have HB3 : Hid (BR w3 bb cb fv B) := by rw [← hw3]; exact HB2.out
  have HD3 : Hid (Blk w3 db (dmaV bb ub (strD D x)) 97) := by rw [← hw3]; exact HD2.out
  have HF3 : Hid (Fr (fun k => k = db) w w3) := by rw [← hw3]; exact HF2.out
  rw [hw3]
  have HS := hid_of (setIdx_any db bb cb ub fv (strD D x) B 0 w3 HD3.out HB3.out)
  clear hw3 HB2 HD2 HF2 hl2 HLT
  refine wp_region_list ?_
  go_wp2_with fail
  refine HS.out.mono ?_
  rintro e w4 ⟨rfl, ht⟩
  have HT := hid_of ht
  clear HS ht
  go_wp2_with fail
  go_ret
  refine ⟨rfl, (HT.out.block _ HD3.out.lt hne).trans HD3.out, HB3.out.tn HT.out rfl rfl, (HF3.out.mono (fun b _ e => .inl e)).trans' (Fr.of_tn HT.out) (fun b _ e => .inr e)⟩
/-! ### The rig's poke -/
def pokR (R : RG) (a d : Int) : RG := { R with uP := pokF R.uP a d, uD := pokF R.uD a d, img := fun x => if x = a then d else R.img x }
theorem RR.lt {own : Nat → Nat} {w : World} {L : LY} {R : RG} (h : RR own w L R) : L.rg < w.heap.size := h.rg.1.lt
theorem ext_mono {own own' own2 : Nat → Nat} {w w1 w2 : World} (h : Ext own own' (fun k => k ≤ 18) w w1) (k : Ext own' own2 (fun k => k ≤ 18) w1 w2) : Ext own own2 (fun k => k ≤ 18) w w2 := h.trans k
set_option maxRecDepth 100000 in
theorem rpoke_any (own : Nat → Nat) (L : LY) (R : RG) (a d : Int) (ha : W32 a) (w : World) (h : RR own w L R) :
    Calls Try.prog 34 #[.pointer (some ⟨L.rg, 0, none⟩), .int .u32 a, .int .u32 d] w fun e w' => e = .returned (.tuple #[]) ∧ RR own w' L (pokR R a d) ∧ Ext own own (fun k => k ≤ 18) w w' := by
  have c2 : w.cell? ⟨L.rg, 2, none⟩ = some (.pointer (some ⟨L.ubP, 0, none⟩)) := h.rg.1.cell 2
  have HP := hid_of (poke_any L.ubP L.mbP L.lvP L.gvP R.uP a d ha w h.uP.u)
  have H := hid_of h
  clear h
  go_enter Try.func34, Try.ntmps34
  go_upto_region 0 with fail
  refine wp_region_list ?_
  go_wp2_with fail
  refine HP.out.mono ?_
  rintro e w1 ⟨rfl, hu1, f1⟩
  have H1 := hid_of (H.out.pokeP hu1 f1)
  have c3 : w1.cell? ⟨L.rg, 3, none⟩ = some (.pointer (some ⟨L.ubD, 0, none⟩)) := H1.out.1.rg.1.cell 3
  have HP2 := hid_of (poke_any L.ubD L.mbD L.lvD L.gvD R.uD a d ha w1 H1.out.1.uD.u)
  clear HP hu1 f1 c2
  go_wp2_with fail
  refine HP2.out.mono ?_
  rintro e w2 ⟨rfl, hu2, f2⟩
  have H2 := hid_of (H1.out.1.pokeD hu2 f2)
  have c1 : w2.cell? ⟨L.rg, 1, none⟩ = some (.map (some L.img)) := H2.out.1.rg.1.cell 1
  obtain ⟨es, ck, hup, hmb9⟩ := run_update_words (P := Try.prog) (t := 28) H2.out.1.img.1 Try.underlying28 Try.underlying30 a d
  have H3 := hid_of (H2.out.1.image _ hmb9)
  clear HP2 hu2 f2 c3 hmb9
  go_wp2_with fail
  exact bodyPost_end (v := .tuple #[]) (results_none rfl _ _ _) rfl ⟨rfl, H3.out.1, (H1.out.2.trans H2.out.2).trans H3.out.2⟩
def cmpS (s : Int) : Bool := s == 46 || s == 47
set_option maxRecDepth 100000 in
theorem isCmp_any (s : Int) (w : World) : Calls Try.prog 56 #[.int .u32 s] w fun e w' => e = .returned (.bool (cmpS s)) ∧ w' = w := by
  cases h : (s == 46)
  · obtain ⟨z, hz⟩ : ∃ z, (s == 47) = z := ⟨_, rfl⟩
    have HE : Hid (cmpS s = z) := by unfold Hid cmpS; rw [h, hz]; rfl
    rw [HE.out]
    go_enter Try.func56, Try.ntmps56
    go_wp2_with fail
    go_ret
    exact ⟨rfl, rfl⟩
  · have HE : Hid (cmpS s = true) := by unfold Hid cmpS; rw [h]; rfl
    rw [HE.out]
    go_enter Try.func56, Try.ntmps56
    go_wp2_with fail
    go_ret
    exact ⟨rfl, rfl⟩
end Go.Proofs.Qxb6500749a
