import Derived.Test.Qxb6500749aFin
import Derived.Test.Qxb6500749aIpr
namespace Go.Proofs.Qxb6500749a
open Go.RowKit
attribute [local go_sem] put_size put_cell_same put_cell_ne put_frozen_same put_frozen_ne put_setCell_same put_setCell_ne put_drew
attribute [local go_sem] drewN_setCell drewN_alloc drewN_put
/-! ### descSound -/
theorem MapB.drewN {w : World} {b : Nat} {f : Int → Int} (h : MapB w b f) (q : Nat) : MapB (w.drewN q) b f := h
set_option maxRecDepth 100000 in
set_option maxHeartbeats 4000000 in
theorem dsw_any (bx rg ib : Nat) (f : Int → Int) (desc i : Int) (hi : 0 ≤ i ∧ i ≤ 3) (w : World) (hb : w.cell? ⟨bx, 0, none⟩ = some (.pointer (some ⟨rg, 0, none⟩))) (h1 : w.cell? ⟨rg, 1, none⟩ = some (.map (some ib))) (h2 : w.cell? ⟨rg, 19, none⟩ = some (.int .u32 desc)) (hm : MapB w ib f) :
    Calls Try.prog 44 #[.int .u32 i, .pointer (some ⟨bx, 0, none⟩)] w fun e w' => e = .returned (.int .u32 (f ((desc + 4 * i) % 4294967296))) ∧ Below w.heap.size w w' := by
  have hlk : ∀ q : Nat, (Instr.lookup 28 (.map (some ib)) (.int .u32 ((desc + 4 * i) % 4294967296)) false).run Try.prog (w.drewN q) = .ok (.int .u32 (f ((desc + 4 * i) % 4294967296))) (w.drewN q) := fun q => run_lookup_words (P := Try.prog) (t := 28) (hm.drewN q) Try.underlying28 Try.underlying30 zero30 ((desc + 4 * i) % 4294967296)
  have hw : IntKind.u32.wrap (4 * i) = 4 * i := by simp [IntKind.wrap, IntKind.bits, IntKind.signed]; omega
  have hw2 : IntKind.u32.wrap (desc + 4 * i) = (desc + 4 * i) % 4294967296 := by simp [IntKind.wrap, IntKind.bits, IntKind.signed]
  have HFIN : Hid (∀ q, Below w.heap.size w (w.drewN q)) := fun q => ⟨rfl, rfl, rfl, Nat.le_refl _, fun _ _ => rfl⟩
  clear hm hi
  go_enter Try.func44, Try.ntmps44
  go_upto_region 1 with fail
  go_quiet (fail)
  go_wp2_with fail
  go_ret
  exact ⟨rfl, HFIN.out _⟩
def sndB (f : Int → Int) (desc : Int) : Bool := crcF (f ((desc + 4 * 0) % 4294967296)) (f ((desc + 4 * 1) % 4294967296)) (f ((desc + 4 * 2) % 4294967296)) == f ((desc + 4 * 3) % 4294967296)
theorem sndB_iff (f : Int → Int) (desc : Int) : sndB f desc = true ↔ sndM f desc := by
  unfold sndB sndM
  simp
set_option maxRecDepth 100000 in
set_option maxHeartbeats 4000000 in
theorem sound_any (own : Nat → Nat) (L : LY) (R : RG) (hw : ∀ a, W32 (R.img a)) (w : World) (h : RR own w L R) :
    Calls Try.prog 24 #[.pointer (some ⟨L.rg, 0, none⟩)] w fun e w' => e = .returned (.bool (sndB R.img R.desc)) ∧ Below w.heap.size w w' := by
  have hmf : ∀ (fn : Fn) (first cap : Array Value) (w : World), (Instr.makeFunc fn first cap).run Try.prog w = .ok (.func fn first cap) w := fun _ _ _ _ => rfl
  obtain ⟨W, hW⟩ : ∃ W, w.alloc (.cells #[.pointer (some ⟨L.rg, 0, none⟩)] 24) = W := ⟨_, rfl⟩
  have hbe : Below w.heap.size w W := by rw [← hW]; exact (Below.refl _ _).alloc (Nat.le_refl _) _
  have HBX : Hid (Blk W w.heap.size #[.pointer (some ⟨L.rg, 0, none⟩)] 24) := by rw [← hW]; exact Blk.new _ _ _
  have HRW : Hid (RR own W L R) := h.below hbe
  have HBE := hid_of hbe
  obtain ⟨x0, hx0⟩ : ∃ x, R.img ((R.desc + 4 * 0) % 4294967296) = x := ⟨_, rfl⟩
  obtain ⟨x1, hx1⟩ : ∃ x, R.img ((R.desc + 4 * 1) % 4294967296) = x := ⟨_, rfl⟩
  obtain ⟨x2, hx2⟩ : ∃ x, R.img ((R.desc + 4 * 2) % 4294967296) = x := ⟨_, rfl⟩
  obtain ⟨x3, hx3⟩ : ∃ x, R.img ((R.desc + 4 * 3) % 4294967296) = x := ⟨_, rfl⟩
  have key : ∀ (i x : Int), 0 ≤ i ∧ i ≤ 3 → R.img ((R.desc + 4 * i) % 4294967296) = x → ∀ w1 : World, Below W.heap.size W w1 → Calls Try.prog 44 #[.int .u32 i, .pointer (some ⟨w.heap.size, 0, none⟩)] w1 fun e w' => e = .returned (.int .u32 x) ∧ Below w1.heap.size w1 w' := fun i x hi hx w1 hb => by
    rw [← hx]
    have hr1 := HRW.out.below hb
    have hbx : Blk w1 w.heap.size #[.pointer (some ⟨L.rg, 0, none⟩)] 24 := (hb.block _ HBX.out.lt).trans HBX.out
    exact dsw_any w.heap.size L.rg L.img R.img R.desc i hi w1 (hbx.cell 0) (hr1.rg.1.cell 1) (hr1.rg.1.cell 19) hr1.img.1
  have H0 : Hid (∀ w1 : World, Below W.heap.size W w1 → Calls Try.prog 44 #[.int .u32 0, .pointer (some ⟨w.heap.size, 0, none⟩)] w1 fun e w' => e = .returned (.int .u32 x0) ∧ Below w1.heap.size w1 w') := key 0 x0 (by decide) hx0
  have H1 : Hid (∀ w1 : World, Below W.heap.size W w1 → Calls Try.prog 44 #[.int .u32 1, .pointer (some ⟨w.heap.size, 0, none⟩)] w1 fun e w' => e = .returned (.int .u32 x1) ∧ Below w1.heap.size w1 w') := key 1 x1 (by decide) hx1
  have H2 : Hid (∀ w1 : World, Below W.heap.size W w1 → Calls Try.prog 44 #[.int .u32 2, .pointer (some ⟨w.heap.size, 0, none⟩)] w1 fun e w' => e = .returned (.int .u32 x2) ∧ Below w1.heap.size w1 w') := key 2 x2 (by decide) hx2
  have H3 : Hid (∀ w1 : World, Below W.heap.size W w1 → Calls Try.prog 44 #[.int .u32 3, .pointer (some ⟨w.heap.size, 0, none⟩)] w1 fun e w' => e = .returned (.int .u32 x3) ∧ Below w1.heap.size w1 w') := key 3 x3 (by decide) hx3
  obtain ⟨cr, hcr⟩ : ∃ cr, crcF x0 x1 x2 = cr := ⟨_, rfl⟩
  have HC : Hid (∀ (V : World) (b : Nat), Blk V b #[.int .u32 x0, .int .u32 x1, .int .u32 x2] 30 → Calls Try.prog 45 #[.slice (some ⟨b, 0, none⟩) 3 3] V fun e' w' => e' = .returned (.int .u32 cr) ∧ w' = V) := fun V b hV => by
    rw [← hcr]
    exact crc_any b 3 x0 x1 x2 (by rw [← hx0]; exact hw _) (by rw [← hx1]; exact hw _) (by rw [← hx2]; exact hw _) V (hV.cell 0) (hV.cell 1) (hV.cell 2)
  have hres : sndB R.img R.desc = (cr == x3) := by unfold sndB; rw [hx0, hx1, hx2, hx3, hcr]
  rw [hres]
  clear hres hcr hx0 hx1 hx2 hx3 key HBX HRW hbe h hw
  go_enter Try.func24, Try.ntmps24
  go_upto_region 2 with fail
  clear hW hmf
  refine wp_region_list ?_
  go_wp2_with fail
  refine (H0.out W (Below.refl _ _)).mono ?_
  rintro e w1 ⟨rfl, hb1⟩
  have HB1 := hid_of hb1
  clear H0 hb1
  go_wp2_with fail
  refine (H1.out w1 HB1.out).mono ?_
  rintro e w2 ⟨rfl, hb2⟩
  have HB2 : Hid (Below W.heap.size W w2) := HB1.out.trans (hb2.mono HB1.out.size)
  clear H1 hb2 HB1
  go_wp2_with fail
  refine (H2.out w2 HB2.out).mono ?_
  rintro e w3 ⟨rfl, hb3⟩
  have HB3 : Hid (Below W.heap.size W w3) := HB2.out.trans (hb3.mono HB2.out.size)
  clear H2 hb3 HB2
  have HS3 : Hid (Blk (w3.alloc (.cells #[.int .u32 x0, .int .u32 x1, .int .u32 x2] 30)) w3.heap.size #[.int .u32 x0, .int .u32 x1, .int .u32 x2] 30) := Blk.new _ _ _
  have HB4 : Hid (Below W.heap.size W (w3.alloc (.cells #[.int .u32 x0, .int .u32 x1, .int .u32 x2] 30))) := HB3.out.alloc HB3.out.size _
  clear HB3
  go_wp2_with fail
  refine (HC.out _ _ HS3.out).mono ?_
  rintro e w4 ⟨rfl, hw4⟩
  obtain rfl := hw4.symm
  clear HC HS3 hw4
  go_wp2_with fail
  refine (H3.out _ HB4.out).mono ?_
  rintro e w5 ⟨rfl, hb5⟩
  have HB5 : Hid (Below w.heap.size w w5) := HBE.out.trans ((HB4.out.trans (hb5.mono HB4.out.size)).mono HBE.out.size)
  clear H3 hb5 HB4
  go_wp2_with fail
  go_ret
  exact ⟨rfl, HB5.out⟩
end Go.Proofs.Qxb6500749a
