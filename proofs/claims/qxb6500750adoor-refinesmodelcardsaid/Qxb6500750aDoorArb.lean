import Derived.Test.Qxb6500750aDoorHnd
import Derived.Test.Qxb6500750aDoorWan
import Derived.BigQuiet
namespace Go.Proofs.Qxb6500750aDoor
open Go.RowKit
attribute [local go_sem] put_size put_cell_same put_cell_ne put_frozen_same put_frozen_ne put_setCell_same put_setCell_ne put_drew
attribute [local go_sem] drewN_setCell drewN_alloc drewN_put
attribute [local go_sem] xg_s0 xg_s1 xg_s2 xg_s3 xg_s4 xg_s5 xg_s6 xg_s7 xg_s8 xg_s9 xg_m0 xg_m1 xg_m2 xg_m3 xg_m4 xg_t0 xg_t1 xg_t2 xg_t3 xg_t4 xg_t5 xg_t6
attribute [local go_sem] mod4_lt mod4_nn mod4_lt'
attribute [local go_sem] xs_s0 xs_s1 xs_s2 xs_s3 xs_s4 xs_s5 xs_s6 xs_s7 xs_s8 xs_s9 xs_m0 xs_m1 xs_m2 xs_m3 xs_m4 xs_t1 xs_t2 xs_t3 xs_t4 xs_t5 xs_t6 xs_sg xs_sr xs_sp rg_rs rg_rp rs_rs rs_rp
attribute [local go_sem] setM_mp setM_setM upd_same upd_upd rs_g rg_g wg_get
attribute [local go_sem] setT_setT setT_tp setT_mp setS_tp setS_sl setS_setS
/-- The three tables of the package variables. -/
structure Glb (own : Nat → Nat) (w : World) : Prop where
  wins : Wins w
  maps : Maps w
  deb : DeB w
  o0 : own 0 = 9
  o1 : own 1 = 9
  o3 : own 3 = 9
  l : 3 < w.heap.size
theorem Glb.ext {own own' : Nat → Nat} {S : Nat → Prop} {w w' : World} (h : Glb own w) (hx : Ext own own' S w w') (hs : ¬ S 9) : Glb own' w' := by
  have hl := h.l
  have e0 : w'.heap[0]? = w.heap[0]? := hx.block 0 (by omega) (by rw [h.o0]; exact hs)
  have e1 : w'.heap[1]? = w.heap[1]? := hx.block 1 (by omega) (by rw [h.o1]; exact hs)
  have e3 : w'.heap[3]? = w.heap[3]? := hx.block 3 (by omega) (by rw [h.o3]; exact hs)
  refine ⟨h.wins.ext e1, fun k hk => ?_, fun k hk => ?_, (hx.keep 0 (by omega)).trans h.o0, (hx.keep 1 (by omega)).trans h.o1, (hx.keep 3 (by omega)).trans h.o3, Nat.lt_of_lt_of_le h.l hx.size⟩
  · obtain ⟨h1, h2⟩ := h.maps k hk
    simp only [World.cell?, e0] at h1 h2 ⊢
    exact ⟨h1, h2⟩
  · have h1 := h.deb k hk
    simp only [World.cell?, e3] at h1 ⊢
    exact h1
theorem Ext.of_below_mark {own : Nat → Nat} {S : Nat → Prop} {w w' : World} (g : Nat) (h : Below w.heap.size w w') : Ext own (mark own w.heap.size g) S w w' :=
  ⟨h.os, h.tape, h.output, h.size, fun _ hk => mark_lt hk, fun k hk _ => h.block k hk⟩
/-! ### arbitrate -/
def pickAt (p : Int) (t : Nat) : Nat := (p / 2 ^ (2 * t) % 4).toNat
theorem pickAt_lt (p : Int) (t : Nat) : pickAt p t < 4 := by unfold pickAt; omega
theorem pick_bits (p : Int) (h0 : 0 ≤ p) (h1 : p < 4294967296) (t : Nat) : bits BinOp.and IntKind.u32 (p / 2 ^ (2 * t)) 3 = (pickAt p t : Nat) := by
  have hp : (0 : Int) < 2 ^ (2 * t) := Int.pow_pos (by decide)
  have h2 : 0 ≤ p / 2 ^ (2 * t) := Int.ediv_nonneg h0 (by omega)
  have h3 : p / 2 ^ (2 * t) ≤ p := Int.ediv_le_self _ h0
  rw [and_three _ h2 (by omega)]
  unfold pickAt
  omega
theorem setS_mpm (x : XS) (m s : Nat) (a : Slot) : (x.setS m s a).mp m = { x.mp m with sl := upd (x.mp m).sl s a } := by simp [XS.setS, XS.setM, upd]
theorem setS_setM (x : XS) (m s : Nat) (a : Slot) (b : MP) : (x.setS m s a).setM m b = x.setM m b := by unfold XS.setS; exact setM_setM x m _ b
def grantX (x : XS) (t m : Nat) : XS :=
  (x.setT t { x.tp t with busy := true, m := (m : Nat), sq := (x.mp m).gr, turn := ((m : Int) + 1) % 3 }).setM m
    { x.mp m with sl := upd (x.mp m).sl ((x.mp m).gr % 4).toNat { (x.mp m).sl ((x.mp m).gr % 4).toNat with ph := 1 }, gr := (x.mp m).gr + 1 }
theorem grantX_tp (x : XS) (t m : Nat) : (grantX x t m).tp t = { x.tp t with busy := true, m := (m : Nat), sq := (x.mp m).gr, turn := ((m : Int) + 1) % 3 } := setT_tp x t _
theorem grantX_sg (x : XS) (t m : Nat) : (grantX x t m).sg = x.sg := rfl
attribute [local go_sem] setS_mpm setS_setM
def arbT (W : Nat → Nat → Bool) (p : Int) (t : Nat) (c : SS × RepD) : SS × RepD :=
  if (c.1.x.tp t).busy = true ∨ wv (W t) = 0 then (c.1, { c.2 with g := upd c.2.g t (-1) })
  else
    let m := cho (W t) (pickAt p t) (c.1.x.tp t).turn.toNat
    ({ sent { c.1 with x := grantX c.1.x t m } t with x := (grantX c.1.x t m).setG t (sat (c.1.x.sg t)) }, { c.2 with g := upd c.2.g t (m : Nat) })
def arbN (W : Nat → Nat → Bool) (p : Int) : Nat → SS × RepD → SS × RepD
  | 0, c => c
  | n + 1, c => arbT W p n (arbN W p n c)
structure ArbOK (t : Nat) (σ : SS) : Prop where
  turn : 0 ≤ (σ.x.tp t).turn ∧ (σ.x.tp t).turn < 3
  gr : ∀ m, m < 3 → 0 ≤ (σ.x.mp m).gr ∧ (σ.x.mp m).gr < 4294967295
  sg : 0 ≤ σ.x.sg t ∧ σ.x.sg t < 4294967296
  free : t < 6 → (σ.x.tp t).busy = false → (σ.p t).busy = false
  pl : t < 6 → ∀ p ∈ (σ.p t).plans, 0 ≤ p.o ∧ p.o < 6 ∧ 0 ≤ p.l ∧ p.l < 4294967296
  n : t < 6 → (σ.p t).plans.length ≤ 8
  a : t < 6 → (σ.p t).atts.length < 1000000000
theorem encW_lit (g : Nat → Nat → Bool) : encW g = #[.int .u8 (wv (g 0) : Nat), .int .u8 (wv (g 1) : Nat), .int .u8 (wv (g 2) : Nat), .int .u8 (wv (g 3) : Nat), .int .u8 (wv (g 4) : Nat), .int .u8 (wv (g 5) : Nat), .int .u8 (wv (g 6) : Nat)] := rfl
set_option maxRecDepth 100000 in
set_option maxHeartbeats 4000000 in
theorem arbitrate_any (own : Nat → Nat) (xb rb : Nat) (pbs : Nat → Nat) (σ : SS) (ρ : RepD) (p : Int) (w : World) (h : XRep own w xb pbs σ) (hr : Blk w rb (encR ρ) 41) (hor : own rb = 49) (hg : Glb own w)
    (hp0 : 0 ≤ p) (hp1 : p < 4294967296)
    (hok0 : ∀ m, m < 3 → 0 ≤ (σ.x.mp m).gr ∧ (∀ s, s < 4 → 0 ≤ ((σ.x.mp m).sl s).req.ad ∧ ((σ.x.mp m).sl s).req.ad < 4294967296))
    (hok : ∀ k, k < 7 → ArbOK k (arbN (wantsF σ.x) p k (σ, ρ)).1) :
    Calls Tryd.prog 49 #[.pointer (some ⟨xb, 0, none⟩), .int .u32 p, .pointer (some ⟨rb, 0, none⟩)] w fun e w' => e = .returned (.tuple #[]) ∧ ∃ own', XRep own' w' xb pbs (arbN (wantsF σ.x) p 7 (σ, ρ)).1 ∧ Blk w' rb (encR (arbN (wantsF σ.x) p 7 (σ, ρ)).2) 41 ∧ Ext own own' (fun k => k ≤ 6 ∨ k = 49) w w' := by
  have HG := hid_of hg
  have H := hid_of h
  have HR := hid_of hr
  have HOK := hid_of hok
  have HOK0 := hid_of hok0
  have hgl := hg.l
  clear hg h hr hok hok0
  go_enter Tryd.func49, Tryd.ntmps49
  go_wp2_with fail
  refine (wants_any (lk pbs) xb σ.x w H.out.blk HG.out.wins (by omega) HOK0.out).mono ?_
  rintro e w1 ⟨rfl, hb1⟩
  obtain ⟨W, hW⟩ : ∃ W, wantsF σ.x = W := ⟨_, rfl⟩
  rw [hW, encW_lit W]
  go_wp2_with fail
  rw [← encW_lit W]
  have hx0 : Ext own (mark own w.heap.size 50) (fun k => k ≤ 6 ∨ k = 49) w w1 := Ext.of_below_mark 50 hb1
  have hx1 := hx0.trans (Ext.alloc' _ (fun k => k ≤ 6 ∨ k = 49) w1 (.cells (encW W) 134))
  have hf0 : Ext own (mark own w.heap.size 50) (fun _ => False) w (w1.alloc (.cells (encW W) 134)) := (Ext.of_below_mark 50 hb1).trans (Ext.alloc' _ (fun _ => False) w1 (.cells (encW W) 134))
  have hwb : Blk (w1.alloc (.cells (encW W) 134)) w1.heap.size (encW W) 134 := Blk.new _ _ _
  have how : mark own w.heap.size 50 w1.heap.size = 50 := mark_ge hb1.size
  have hA : Hid (XRep (mark own w.heap.size 50) (w1.alloc (.cells (encW W) 134)) xb pbs σ) := H.out.ext hf0 (fun _ _ h => h)
  have hB : Hid (Blk (w1.alloc (.cells (encW W) 134)) rb (encR ρ) 41) := HR.out.ext hf0 (fun h => h)
  have hC : Hid (Glb (mark own w.heap.size 50) (w1.alloc (.cells (encW W) 134))) := HG.out.ext hf0 (fun h => h)
  have hor' : mark own w.heap.size 50 rb = 49 := (mark_lt HR.out.lt).trans hor
  generalize mark own w.heap.size 50 = own0 at *
  have HX1 := hid_of hx1
  have HWB := hid_of hwb
  clear hx0 hx1 hf0 hwb hgl
  rw [hW] at HOK
  have HQW := hid_of hW
  have hwl : Hid (w1.heap.size = w1.heap.size) := rfl
  generalize hwbe : w1.heap.size = wb at *
  clear hwbe hwl
  go_loopw [13] (fun i w' => ∃ (k : Nat), k ≤ 7 ∧ i = .int .i64 k ∧ ∃ own', XRep own' w' xb pbs (arbN W p k (σ, ρ)).1 ∧ Blk w' rb (encR (arbN W p k (σ, ρ)).2) 41 ∧ Blk w' wb (encW W) 134 ∧ own' wb = 50 ∧ own' rb = 49 ∧ Glb own' w' ∧ Ext own own' (fun k => k ≤ 6 ∨ k = 49) w w') (fun i _ => 7 - (intOf i).toNat)
  case atStart => exact ⟨0, by omega, rfl, own0, hA.out, hB.out, HWB.out, how, hor', hC.out, HX1.out⟩
  case round =>
    clear hA hB HWB how hor' hC HX1 hW
    obtain ⟨k, hk, rfl, own1, h1, hr1, hw1, how1, hor1, hg1, hx1⟩ := hrel
    by_cases hk7 : k < 7
    · have hok1 := HOK.out k hk7
      obtain ⟨c, hc⟩ : ∃ c, arbN W p k (σ, ρ) = c := ⟨_, rfl⟩
      rw [hc] at h1 hr1 hok1
      have hnext : Hid (arbN W p (k + 1) (σ, ρ) = arbT W p k c) := by unfold Hid; rw [← hc]; rfl
      have hox := h1.oxb
      have hne1 : rb ≠ xb := fun e => by rw [e] at hor1; omega
      have hne2 : wb ≠ xb := fun e => by rw [e] at how1; omega
      have hne3 : wb ≠ rb := fun e => by rw [e] at how1; omega
      have hne1' := Ne.symm hne1
      have hne2' := Ne.symm hne2
      have hne3' := Ne.symm hne3
      have HX1 := hid_of hx1
      have HG1 := hid_of hg1
      have H1 := hid_of h1
      have HK := hid_of hok1
      clear hx1 hg1 hc hox
      obtain ⟨w0, rfl, hl0⟩ := h1.blk.out
      have hr2 : Blk w0 rb (encR c.2) 41 := (put_heap_ne w0 xb rb _ _ hne1).symm.trans hr1
      have hw2 : Blk w0 wb (encW W) 134 := (put_heap_ne w0 xb wb _ _ hne2).symm.trans hw1
      obtain ⟨w2, rfl, hl2⟩ := hr2.out
      have hw3 : Blk w2 wb (encW W) 134 := (put_heap_ne w2 rb wb _ _ hne3).symm.trans hw2
      obtain ⟨w3, rfl, hl3⟩ := hw3.out
      rw [put_size] at hl2
      rw [put_size, put_size] at hl0
      clear h1 hr1 hw1 hr2 hw2 hw3
      have hend : Hid (∀ R, Ext own1 own1 (fun k => k ≤ 6 ∨ k = 49) (put (put (put w3 wb (encW W) 134) rb (encR c.2) 41) xb (encX (lk pbs) c.1.x) 132) (put (put (put w3 wb (encW W) 134) rb R 41) xb (encX (lk pbs) c.1.x) 132)) := fun R => (H1.out.both hor1 (by omega) hne1 R c.1.x).2
      cases hbz : (c.1.x.tp k).busy
      · cases hwz : wv (W k) == 0
        · have hwz' : wv (W k) ≠ 0 := by simpa using hwz
          have hwz2 : (((wv (W k) : Nat) : Int) == 0) = false := by simp; exact hwz'
          obtain ⟨ht0, ht1⟩ := HK.out.turn
          obtain ⟨T, hT⟩ := Int.eq_ofNat_of_zero_le ht0
          have hT3 : T < 3 := by omega
          obtain ⟨m, hm⟩ : ∃ m, cho (W k) (pickAt p k) T = m := ⟨_, rfl⟩
          have hm3 : m < 3 := by rw [← hm]; exact cho_lt _ _ _ hT3
          have HM := hid_of hm
          have hpb := pick_bits p hp0 hp1 k
          obtain ⟨sh, hsh⟩ : ∃ sh, 2 * k = sh := ⟨_, rfl⟩
          rw [hsh] at hpb
          have hs12 : sh ≤ 12 := by omega
          have hshw : IntKind.i64.wrap (2 * (k : Int)) = (sh : Int) := by
            have e : 2 * (k : Int) = (sh : Int) := by omega
            rw [e]; simp [IntKind.wrap, IntKind.bits, IntKind.signed]; omega
          clear hsh
          have HWZ := hid_of hwz'
          obtain ⟨hgr0, hgr1⟩ := HK.out.gr m hm3
          have hadd : ((c.1.x.mp m).gr + 1) % 4294967296 = (c.1.x.mp m).gr + 1 := by omega
          have hmadd : ((m : Int) + 1) % 256 = (m : Int) + 1 := by omega
          have HD : Hid (DeB (put (put (put w3 wb (encW W) 134) rb (encR { c.2 with g := upd c.2.g k (-1) }) 41) xb (encX (lk pbs) c.1.x) 132)) := (HG1.out.ext (hend.out _) (by omega)).deb
          have hch : Hid (∀ n, Calls Tryd.prog 65 #[.int .u8 (wv (W k) : Nat), .int .u32 (pickAt p k : Nat), .int .u8 (T : Nat)] ((put (put (put w3 wb (encW W) 134) rb (encR { c.2 with g := upd c.2.g k (-1) }) 41) xb (encX (lk pbs) c.1.x) 132).drewN n) fun e w' => e = .returned (.int .u8 (m : Nat)) ∧ w' = (put (put (put w3 wb (encW W) 134) rb (encR { c.2 with g := upd c.2.g k (-1) }) 41) xb (encX (lk pbs) c.1.x) 132).drewN n) := fun n => by
            rw [← HM.out]
            exact choose_any (W k) (pickAt p k) T (pickAt_lt _ _) hT3 HWZ.out _ HD.out
          clear hm hwz' hwz ht0 ht1
          go_wp2_with fail
          go_quiet ((go_at_call 65; exact Calls.quiet_of_same (hch.out _)))
          go_wp2_with fail
          refine (slot_any xb _ _ hgr0 _).mono ?_
          rintro e w4 ⟨rfl, hw4⟩
          obtain rfl := hw4.symm
          go_wp2_with fail
          obtain ⟨b1, b2⟩ := H1.out.both hor1 (by omega) hne1 (encR { c.2 with g := upd c.2.g k (-1) }) (grantX c.1.x k m)
          have hxx : Ext own1 own1 (fun k => k ≤ 6 ∨ k = 49) (put (put (put w3 wb (encW W) 134) rb (encR c.2) 41) xb (encX (lk pbs) c.1.x) 132) ((put (put (put w3 wb (encW W) 134) rb (encR { c.2 with g := upd c.2.g k (-1) }) 41) xb (encX (lk pbs) (grantX c.1.x k m)) 132).drewN nq) := Ext.drewN b2 nq
          have hXR : XRep own1 ((put (put (put w3 wb (encW W) 134) rb (encR { c.2 with g := upd c.2.g k (-1) }) 41) xb (encX (lk pbs) (grantX c.1.x k m)) 132).drewN nq) xb pbs { c.1 with x := grantX c.1.x k m } := b1.ext (Ext.drewN (Ext.refl _ (fun _ => False) _) nq) (fun _ _ h => h)
          refine (send_x own1 xb k pbs { c.1 with x := grantX c.1.x k m } hk7 ?_ ?_ ?_ ?_ ?_ ?_ _ hXR).mono ?_
          · show 0 ≤ ((grantX c.1.x k m).tp k).m ∧ ((grantX c.1.x k m).tp k).m < 3
            rw [grantX_tp]; exact ⟨by show (0 : Int) ≤ (m : Int); omega, by show (m : Int) < 3; omega⟩
          · show 0 ≤ ((grantX c.1.x k m).tp k).sq
            rw [grantX_tp]; exact hgr0
          · exact fun h6 => HK.out.free h6 hbz
          · exact HK.out.pl
          · exact HK.out.n
          · exact HK.out.a
          rintro e w5 ⟨rfl, own2, h2, hx2⟩
          have hr5 : Blk w5 rb (encR { c.2 with g := upd c.2.g k (-1) }) 41 := Blk.ext (w := (put (put (put w3 wb (encW W) 134) rb (encR { c.2 with g := upd c.2.g k (-1) }) 41) xb (encX (lk pbs) (grantX c.1.x k m)) 132).drewN nq) ((Blk.put_same (by rw [put_size]; exact hl2)).put_ne hne1) hx2 (by rw [hor1]; omega)
          have hw5 : Blk w5 wb (encW W) 134 := Blk.ext (w := (put (put (put w3 wb (encW W) 134) rb (encR { c.2 with g := upd c.2.g k (-1) }) 41) xb (encX (lk pbs) (grantX c.1.x k m)) 132).drewN nq) (((Blk.put_same hl3).put_ne hne3).put_ne hne2) hx2 (by rw [how1]; omega)
          have hor2 : own2 rb = 49 := (hx2.keep rb (by show rb < (put _ _ _ _).heap.size; rw [put_size, put_size, put_size]; exact hl2)).trans hor1
          have how2 : own2 wb = 50 := (hx2.keep wb (by show wb < (put _ _ _ _).heap.size; rw [put_size, put_size, put_size]; exact hl3)).trans how1
          have hxt := hxx.trans (hx2.mono (S' := fun k => k ≤ 6 ∨ k = 49) (fun _ h => .inl h))
          have HG2 := hid_of (HG1.out.ext hxt (by omega))
          have HX2 := hid_of (HX1.out.trans hxt)
          have H2 := hid_of h2
          have hb2 := h2.blk
          rw [sent_x] at hb2
          obtain ⟨w6, rfl, hl6⟩ := hb2.out
          have hr6 : Blk w6 rb (encR { c.2 with g := upd c.2.g k (-1) }) 41 := (put_heap_ne w6 xb rb _ _ hne1).symm.trans hr5
          have hw6 : Blk w6 wb (encW W) 134 := (put_heap_ne w6 xb wb _ _ hne2).symm.trans hw5
          obtain ⟨w7, rfl, hl7⟩ := hr6.out
          have hw7 : Blk w7 wb (encW W) 134 := (put_heap_ne w7 rb wb _ _ hne3).symm.trans hw6
          rw [put_size] at hl6
          clear hb2 hx2 h2 hr5 hr6 hw5 hw6 hxx hxt hXR b1 b2 hend hch HD
          go_wp2_with fail
          refine (bump_blk xb (184 + k) (encX (lk pbs) (grantX c.1.x k m)) 132 (c.1.x.sg k) HK.out.sg _ (Blk.put_same (by rw [put_size]; exact hl6)) (xg_sg (lk pbs) (grantX c.1.x k m) k hk7)).mono ?_
          rintro e w8 ⟨rfl, hw8⟩
          rw [put_put, xs_sg _ _ _ hk7] at hw8
          subst hw8
          obtain ⟨b1, b2⟩ := H2.out.both hor2 (by omega) hne1 (encR { c.2 with g := upd c.2.g k (m : Nat) }) ((grantX c.1.x k m).setG k (sat (c.1.x.sg k)))
          have B1 := hid_of b1
          have B2 := hid_of b2
          clear b1 b2
          go_wp2_with fail
          go_roundw
          case rel =>
            have HT : arbT W p k c = ({ sent { c.1 with x := grantX c.1.x k m } k with x := (grantX c.1.x k m).setG k (sat (c.1.x.sg k)) }, { c.2 with g := upd c.2.g k (m : Nat) }) := by
              have hTn : (c.1.x.tp k).turn.toNat = T := by rw [hT]; rfl
              unfold arbT
              rw [if_neg (by rw [hbz]; exact fun h => h.elim (fun h => by cases h) HWZ.out)]
              rw [hTn, HM.out]
            refine ⟨k + 1, by omega, by go_num, own2, ?_, ?_, ?_, how2, hor2, HG2.out.ext B2.out (by omega), HX2.out.trans B2.out⟩
            · rw [hnext.out, HT]; exact B1.out
            · rw [hnext.out, HT]; exact (Blk.put_same hl7).put_ne hne1
            · exact (hw7.put_ne hne3).put_ne hne2
          case measure => simp [intOf]; omega
        · have HT : Hid (arbT W p k c = (c.1, { c.2 with g := upd c.2.g k (-1) })) := by unfold Hid arbT; rw [if_pos (.inr (by simpa using hwz))]
          have hwz' : ((wv (W k) : Nat) : Int) = 0 := by have : wv (W k) = 0 := by simpa using hwz
                                                         omega
          go_wp2_with fail
          go_roundw
          case rel =>
            obtain ⟨b1, b2⟩ := H1.out.both hor1 (by omega) hne1 (encR { c.2 with g := upd c.2.g k (-1) }) c.1.x
            refine ⟨k + 1, by omega, by go_num, own1, ?_, ?_, ?_, how1, hor1, HG1.out.ext b2 (by omega), HX1.out.trans b2⟩
            · rw [hnext.out, HT.out]; exact b1
            · rw [hnext.out, HT.out]; exact (Blk.put_same (by rw [put_size]; exact hl2)).put_ne hne1
            · exact ((Blk.put_same hl3).put_ne hne3).put_ne hne2
          case measure => simp [intOf]; omega
      · have HT : Hid (arbT W p k c = (c.1, { c.2 with g := upd c.2.g k (-1) })) := by unfold Hid arbT; rw [if_pos (.inl hbz)]
        go_wp2_with fail
        go_roundw
        case rel =>
          obtain ⟨b1, b2⟩ := H1.out.both hor1 (by omega) hne1 (encR { c.2 with g := upd c.2.g k (-1) }) c.1.x
          refine ⟨k + 1, by omega, by go_num, own1, ?_, ?_, ?_, how1, hor1, HG1.out.ext b2 (by omega), HX1.out.trans b2⟩
          · rw [hnext.out, HT.out]; exact b1
          · rw [hnext.out, HT.out]; exact (Blk.put_same (by rw [put_size]; exact hl2)).put_ne hne1
          · exact ((Blk.put_same hl3).put_ne hne3).put_ne hne2
        case measure => simp [intOf]; omega
    · obtain rfl : k = 7 := by omega
      go_wp2_with fail
      go_end0
      exact ⟨rfl, own1, by rw [HQW.out]; exact h1, by rw [HQW.out]; exact hr1, hx1⟩
end Go.Proofs.Qxb6500750aDoor
