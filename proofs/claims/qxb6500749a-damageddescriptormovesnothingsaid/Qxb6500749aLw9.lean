import Derived.Test.Qxb6500749aDpd
import Derived.Test.Qxb6500749aDel
import Derived.Test.Qxb6500749aLw10
namespace Go.Proofs.Qxb6500749a
open Go.RowKit
attribute [local go_sem] put_size put_cell_same put_cell_ne put_frozen_same put_frozen_ne put_setCell_same put_setCell_ne put_drew
attribute [local go_sem] drewN_setCell drewN_alloc drewN_put
/-! ### Law 9: a damaged descriptor -/
def fr9 (a : Option Addr) (m c x : Nat) (u : Nat → Value) : Act :=
  { tmps := ((u 0) :: (u 1) :: (u 2) :: (.slice a m c) :: (u 4) :: (.int .u32 (x : Nat)) :: (u 6) :: (u 7) :: (u 8) :: (u 9) :: (u 10) :: (u 11) :: (u 12) :: (u 13) :: (u 14) :: (u 15) :: (u 16) :: (u 17) :: (u 18) :: (u 19) :: (u 20) :: (u 21) :: (u 22) :: (u 23) :: (u 24) :: (u 25) :: (u 26) :: (u 27) :: (u 28) :: (u 29) :: (u 30) :: (u 31) :: (u 32) :: (u 33) :: (u 34) :: (u 35) :: (u 36) :: (u 37) :: (u 38) :: (u 39) :: (u 40) :: (u 41) :: (u 42) :: (u 43) :: (u 44) :: (u 45) :: (u 46) :: (u 47) :: (u 48) :: (u 49) :: (u 50) :: (u 51) :: (u 52) :: (u 53) :: (u 54) :: (u 55) :: (u 56) :: (u 57) :: (u 58) :: (u 59) :: (u 60) :: (u 61) :: (u 62) :: (u 63) :: (u 64) :: (u 65) :: (u 66) :: (u 67) :: (u 68) :: (u 69) :: (u 70) :: (u 71) :: (u 72) :: (u 73) :: (u 74) :: (u 75) :: (u 76) :: (u 77) :: (u 78) :: (u 79) :: (u 80) :: (u 81) :: (u 82) :: (u 83) :: (u 84) :: (u 85) :: (u 86) :: (u 87) :: [] : List Value).toArray, defers := [] }
def fr9b (a : Option Addr) (m c x : Nat) (a5 : Option Addr) (c5 y : Nat) (u : Nat → Value) : Act :=
  { tmps := ((u 0) :: (u 1) :: (u 2) :: (.slice a m c) :: (u 4) :: (.int .u32 (x : Nat)) :: (u 6) :: (u 7) :: (u 8) :: (u 9) :: (u 10) :: (u 11) :: (u 12) :: (u 13) :: (u 14) :: (u 15) :: (u 16) :: (u 17) :: (u 18) :: (u 19) :: (u 20) :: (u 21) :: (u 22) :: (u 23) :: (u 24) :: (u 25) :: (u 26) :: (u 27) :: (u 28) :: (u 29) :: (u 30) :: (u 31) :: (u 32) :: (u 33) :: (u 34) :: (u 35) :: (u 36) :: (u 37) :: (u 38) :: (u 39) :: (u 40) :: (u 41) :: (u 42) :: (u 43) :: (u 44) :: (u 45) :: (u 46) :: (u 47) :: (u 48) :: (u 49) :: (u 50) :: (u 51) :: (u 52) :: (u 53) :: (u 54) :: (u 55) :: (u 56) :: (u 57) :: (u 58) :: (u 59) :: (u 60) :: (u 61) :: (u 62) :: (u 63) :: (u 64) :: (u 65) :: (u 66) :: (u 67) :: (u 68) :: (u 69) :: (u 70) :: (u 71) :: (u 72) :: (u 73) :: (u 74) :: (u 75) :: (u 76) :: (u 77) :: (.slice a5 4 c5) :: (.int .i64 4) :: (.int .i64 (y : Nat)) :: (u 81) :: (u 82) :: (u 83) :: (u 84) :: (u 85) :: (u 86) :: (u 87) :: [] : List Value).toArray, defers := [] }
set_option linter.unusedVariables false in
set_option maxRecDepth 100000 in
set_option maxHeartbeats 16000000 in
theorem law9_any (a : Option Addr) (n c : Nat) (s : Nat → OpD) (w : World) (hs : Scr w a n s) :
    Calls Try.prog 9 #[.slice a n c] w fun e w' => e = .returned (.bool true) ∧ Below w.heap.size w w' := by
  by_cases hn : n ≤ 65536
  · have HSM := hid_of (small_yes a n c hn w)
    have HSC := hid_of (scene_any a n c s hn w hs)
    have HN := hid_of hn
    clear hs hn
    go_enter Try.func9, Try.ntmps9
    go_wp2_with fail
    refine HSM.out.mono ?_
    rintro e w0 ⟨rfl, hw0⟩
    obtain rfl := hw0.symm
    clear HSM hw0
    go_wp2_with fail
    refine HSC.out.mono ?_
    rintro e w1 ⟨a2, m, c2, s2, rfl, hm, hs2, hd2, hb1⟩
    have hm5 : m ≤ 65536 := by have := HN.out; omega
    have hok := plyN_ok s2 false false m (fun k hk => hs2.1 k hk)
    have hpi := pi_play s2 false false m (fun k hk => hs2.1 k hk)
    have hkk := kk_play s2 false false m
    have hrn := run_play s2 false false m (fun k hk e => by have := hd2 k hk; unfold delB at this; rw [e] at this; simp at this)
    have hhm := hdm_play s2 false false m (fun k hk => hs2.1 k hk)
    have HPL : Hid (∀ wr : World, Below w1.heap.size w1 wr → Calls Try.prog 12 #[.slice a2 m c2, .bool false, .bool false] wr fun e w' => e = .returned (.pointer (some ⟨wr.heap.size + 5, 0, none⟩)) ∧ ∃ own L, RR own w' L (plyN s2 false false m) ∧ Below wr.heap.size wr w' ∧ (∀ k, k < wr.heap.size → own k = 50) ∧ L.rg = wr.heap.size + 5) := fun wr h => play_any a2 m c2 s2 hm5 false false wr (hs2.below h)
    generalize plyN s2 false false m = R at *
    have HOK : Hid (PI 2305 R ∧ R.reps.length < 900000000 ∧ R.ko = false ∧ R.run = false ∧ HdM R) := ⟨hpi, by have := hok.2; omega, hkk.2, hrn, hhm⟩
    have HB1 := hid_of hb1
    clear HSC hm hs2 hd2 hb1 hm5 hok hpi hkk hrn hhm
    have HPL0 := hid_of (HPL.out w1 (Below.refl _ _))
    go_wp2_with fail
    refine HPL0.out.mono ?_
    rintro e w2 ⟨rfl, own, L, hr2, hb2, ho2, hl2⟩
    have HB2 : Hid (Below w1.heap.size w1 w2) := hb2
    have g18 : w2.cell? ⟨w1.heap.size + 5, 18, none⟩ = some (.bool R.hd) := by rw [← hl2]; exact hr2.rg.1.cell 18
    have HSD := hid_of (sound_any own L R HOK.out.1.wi w2 hr2)
    rw [hl2] at HSD
    clear HPL0 hr2 hb2 ho2 hl2
    cases hhd : R.hd
    · rw [hhd] at g18
      clear HSD
      go_wp2_with fail
      go_ret
      exact ⟨rfl, HB1.out.trans (HB2.out.mono HB1.out.size)⟩
    rw [hhd] at g18
    cases hsd : sndB R.img R.desc
    · rw [hsd] at HSD
      go_wp2_with fail
      refine HSD.out.mono ?_
      rintro e w3 ⟨rfl, hb3⟩
      have HB3 : Hid (Below w1.heap.size w1 w3) := HB2.out.trans (hb3.mono HB2.out.size)
      clear HSD hb3
      go_wp2_with fail
      go_ret
      exact ⟨rfl, HB1.out.trans (HB3.out.mono HB1.out.size)⟩
    rw [hsd] at HSD
    have HHD : Hid (R.hd = true ∧ sndM R.img R.desc) := ⟨hhd, (sndB_iff _ _).1 hsd⟩
    clear hhd hsd
    go_wp2_with fail
    refine HSD.out.mono ?_
    rintro e w3 ⟨rfl, hb3⟩
    have HB3 : Hid (Below w1.heap.size w1 w3) := HB2.out.trans (hb3.mono HB2.out.size)
    clear HSD hb3 g18 HB2
    go_wp2_with fail
    refine q_of (Q := fun a => (Code.loop _).wp Try.prog _ a _) (F := fr9 a2 m c2 0) (fun u0 => ?_) _ (by kernel_rfl)
    refine wp_loop (fun act wr => ∃ (u : Nat → Value) (x : Nat), act = fr9 a2 m c2 x u ∧ x ≤ 128 ∧ Hid (Below w1.heap.size w1 wr)) (fun act _ => 128 - (intOf (act.tmps.getD 5 undef)).toNat) ⟨u0, 0, rfl, by decide, HB3.out⟩ ?_
    clear HB3
    rintro act wr ⟨u, x, rfl, hx, HR⟩
    by_cases hlt : x < 128
    case neg =>
      have hlt2 : ¬ ((x : Nat) : Int) < 128 := by omega
      clear hx hlt
      unfold fr9
      go_wp2_with fail
      go_ret
      exact ⟨rfl, HB1.out.trans (HR.out.mono HB1.out.size)⟩
    have hlt2 : ((x : Nat) : Int) < 128 := by omega
    have hinc : (((x : Nat) : Int) + 1) % 4294967296 = ((x : Nat) : Int) + 1 := by omega
    obtain ⟨j, hj⟩ : ∃ j, x / 32 = j := ⟨_, rfl⟩
    obtain ⟨b, hb⟩ : ∃ b, x % 32 = b := ⟨_, rfl⟩
    have HJB : Hid (j < 4 ∧ b < 32) := ⟨by omega, by omega⟩
    have hquo : ((x : Nat) : Int).tdiv 32 = ((j : Nat) : Int) := by rw [Int.tdiv_eq_ediv_of_nonneg (by omega)]; omega
    have hrem : ((x : Nat) : Int).tmod 32 = ((b : Nat) : Int) := by rw [Int.tmod_eq_emod_of_nonneg (by omega)]; omega
    have hj2 : ((j : Nat) : Int) % 4294967296 = ((j : Nat) : Int) := by omega
    have hb2 : ((b : Nat) : Int) % 4294967296 = ((b : Nat) : Int) := by omega
    have hj4 : (4 * ((j : Nat) : Int)) % 4294967296 = 4 * ((j : Nat) : Int) := by omega
    obtain ⟨ad, had⟩ : ∃ ad, (R.desc + 4 * ((j : Nat) : Int)) % 4294967296 = ad := ⟨_, rfl⟩
    have HAD : Hid (ra R.desc j = ad) := had
    have HWA : Hid (W32 ad) := by rw [← had]; exact W32.emod _
    have hbi : ((b : Nat) : Int) < 32 := by have := HJB.out.2; omega
    have hpow : (2 ^ b : Int) % 4294967296 = 2 ^ b := by
      have := w32_pow HJB.out.2
      have h1 := this.1
      have h2 := this.2
      omega
    obtain ⟨da, hda⟩ : ∃ da, bits BinOp.xor IntKind.u32 (R.img ad) (2 ^ b) = da := ⟨_, rfl⟩
    have HDA : Hid (da = bits BinOp.xor IntKind.u32 (R.img (ra R.desc j)) (2 ^ b)) := by unfold Hid; rw [HAD.out]; exact hda.symm
    have HPLX := hid_of (HPL.out wr HR.out)
    obtain ⟨KR, hKR⟩ : ∃ KR : Act → World → Prop, KR = fun a' w' => ((fun act wr => ∃ (u : Nat → Value) (x : Nat), act = fr9 a2 m c2 x u ∧ x ≤ 128 ∧ Hid (Below w1.heap.size w1 wr)) a' w' ∧ 128 - (intOf (a'.tmps.getD 5 undef)).toNat < 128 - (intOf ((fr9 a2 m c2 x u).tmps.getD 5 undef)).toNat) := ⟨_, rfl⟩
    have HKR : Hid (∀ (act : Act) (w' : World), act = fr9 a2 m c2 (x + 1) (fun i => act.tmps.getD i undef) → Below w1.heap.size w1 w' → KR act w') := fun act w' e h1 => by
      rw [hKR]
      refine ⟨⟨_, x + 1, e, hlt, h1⟩, ?_⟩
      have e1 : act.tmps.getD 5 undef = .int .u32 ((x + 1 : Nat) : Int) := by rw [e]; rfl
      have e2 : (fr9 a2 m c2 x u).tmps.getD 5 undef = .int .u32 ((x : Nat) : Int) := rfl
      simp only [e1, e2, intOf]
      omega
    rw [← hKR]
    clear hKR hx hlt hj hb HPL
    unfold fr9
    go_wp2_with fail
    refine HPLX.out.mono ?_
    rintro e w3 ⟨rfl, own3, L3, hr3, hb3, ho3, hl3⟩
    have g19 : w3.cell? ⟨wr.heap.size + 5, 19, none⟩ = some (.int .u32 R.desc) := by rw [← hl3]; exact hr3.rg.1.cell 19
    have g1 : w3.cell? ⟨wr.heap.size + 5, 1, none⟩ = some (.map (some L3.img)) := by rw [← hl3]; exact hr3.rg.1.cell 1
    have hlk := run_lookup_words (P := Try.prog) (t := 28) hr3.img.1 Try.underlying28 Try.underlying30 zero30 ad
    have HPK := hid_of (rpoke_any own3 L3 R ad da HWA.out w3 hr3)
    rw [hl3] at HPK
    have HO3 : Hid ((∀ k, k < wr.heap.size → own3 k = 50) ∧ Below wr.heap.size wr w3 ∧ L3.rg = wr.heap.size + 5) := ⟨ho3, hb3, hl3⟩
    clear HPLX hr3 hb3 ho3 hl3
    go_wp2_with fail
    refine HPK.out.mono ?_
    rintro e w4 ⟨rfl, hr4, hx4⟩
    have hpp : PI 2305 (pokR R ad da) := by
      rw [← HAD.out]
      have hm := HOK.out.2.2.2.2 HHD.out.1
      have hw : W32 da := by rw [HDA.out]; exact flip_w32 (HOK.out.1.wi _) HJB.out.2
      exact HOK.out.1.pok HOK.out.2.2.2.1 _ _ (ra_map hm.1 hm.2.1 hm.2.2 HJB.out.1) hw
    have HFI : Hid (Calls Try.prog 31 #[.pointer (some ⟨wr.heap.size + 5, 0, none⟩)] w4 fun e w' => e = .returned (.bool true) ∧ ∃ own' L' R', Fin own3 w4 (pokR R ad da) (wr.heap.size + 5) w' own' L' R' (R.reps.length + 2400) 2305 ∧ R'.DM.st ≠ 1) := by
      have := finish_any own3 L3 (pokR R ad da) hpp (fun _ z1 _ => by rw [zR_no (R := pokR R ad da) HOK.out.2.2.1] at z1; exact absurd z1 (by decide)) HOK.out.2.1 w4 hr4
      rw [HO3.out.2.2] at this
      exact this
    have HB4 : Hid (Below wr.heap.size wr w4) := HO3.out.2.1.trans (below_of_ext hx4 HO3.out.2.1.size HO3.out.1)
    clear HPK hr4 hx4 hpp g19 g1 hlk had hda hquo hrem hj2 hb2 hj4 hbi hpow
    go_wp2_with fail
    refine HFI.out.mono ?_
    rintro e w5 ⟨rfl, own5, L5, R5, hf5, hst5⟩
    have hpl := f9_plain (R := R) (R' := R5) (d := da) HJB.out.1 HJB.out.2 HOK.out.1 HHD.out.1 HOK.out.2.2.2.2 HOK.out.2.2.1 HHD.out.2 HDA.out hf5.pi (by rw [HAD.out]; exact hf5.kp) hf5.run hst5
    have HB5 : Hid (Below w1.heap.size w1 w5) := by
      have b5 : Below wr.heap.size w4 w5 := below_of_ext hf5.ext HB4.out.size HO3.out.1
      exact HR.out.trans ((HB4.out.trans b5).mono HR.out.size)
    have g21 : w5.cell? ⟨wr.heap.size + 5, 21, none⟩ = some (.pointer (some ⟨L5.db, 0, none⟩)) := by
      have h9 : w5.cell? ⟨L5.rg, 21, none⟩ = some (ptr R5.run L5.db) := hf5.rr.rg.1.cell 21
      rw [hf5.run, hf5.lrg] at h9
      exact h9
    have g3 : w5.cell? ⟨wr.heap.size + 5, 3, none⟩ = some (.pointer (some ⟨L5.ubD, 0, none⟩)) := by rw [← hf5.lrg]; exact hf5.rr.rg.1.cell 3
    have HST : Hid (Calls Try.prog 23 #[.pointer (some ⟨L5.db, 0, none⟩)] w5 fun e w' => e = .returned (.int .u8 3) ∧ w' = w5) := by
      have := status_any L5.db L5.bbD L5.ubD R5.DM w5 (hf5.rr.dma hf5.run).1
      rw [hpl.1] at this
      exact this
    have hsl := hf5.rr.uD.u.log
    rw [hpl.2.1] at hsl
    obtain ⟨a5, c5, e5⟩ := hsl.form'
    rw [e5] at hsl
    have HSL := hid_of hsl
    have HLG : Hid (Calls Try.prog 13 #[.pointer (some ⟨L5.ubD, 0, none⟩)] w5 fun e w' => e = .returned (.slice a5 4 c5) ∧ w' = w5) := by rw [← e5]; exact log_any L5.ubD L5.mbD L5.lvD L5.gvD R5.uD w5 hf5.rr.uD.u
    have HTW : Hid (R5.uD.log.length = 4 ∧ ∀ t ∈ R5.uD.log, t.w = false) := hpl.2
    clear HFI hf5 hst5 hpl hsl e5 HB4 HO3
    go_wp2_with fail
    refine HST.out.mono ?_
    rintro e w6 ⟨rfl, hw6⟩
    obtain rfl := hw6.symm
    clear hw6 HST
    go_wp2_with fail
    refine HLG.out.mono ?_
    rintro e w6 ⟨rfl, hw6⟩
    obtain rfl := hw6.symm
    clear hw6
    go_wp2_with fail
    refine HLG.out.mono ?_
    rintro e w6 ⟨rfl, hw6⟩
    obtain rfl := hw6.symm
    clear hw6 HLG g21 g3
    go_wp2_with fail
    refine q_of (Q := fun a => (Code.loop _).wp Try.prog _ a _) (F := fr9b a2 m c2 x a5 c5 0) (fun u0 => ?_) _ (by kernel_rfl)
    refine wp_loop (fun act wq => ∃ (u : Nat → Value) (y : Nat), act = fr9b a2 m c2 x a5 c5 y u ∧ y ≤ 4 ∧ Hid (Below w5.heap.size w5 wq)) (fun act _ => 4 - (intOf (act.tmps.getD 80 undef)).toNat) ⟨u0, 0, rfl, by decide, Below.refl _ _⟩ ?_
    rintro act wq ⟨u, y, rfl, hy, HQ⟩
    by_cases hyl : y < 4
    case neg =>
      have hyi : ¬ ((y : Nat) : Int) < 4 := by omega
      have HFIN : Hid (Below w1.heap.size w1 wq) := HB5.out.trans (HQ.out.mono HB5.out.size)
      clear hy hyl
      unfold fr9b
      go_wp2_with fail
      exact HKR.out _ _ (by kernel_rfl) HFIN.out
    have hyi : ((y : Nat) : Int) < 4 := by omega
    have hadd : IntKind.i64.wrap (((y : Nat) : Int) + 1) = (y : Nat) + 1 := by simp [IntKind.wrap, IntKind.bits, IntKind.signed]; omega
    obtain ⟨b1, o1, cq, eq1, _, hl1⟩ := HSL.out.form (by decide)
    injection eq1 with eq1 _ eq3
    obtain ⟨t, ht⟩ : ∃ t, R5.uD.log[y]? = some t := ⟨_, List.getElem?_eq_getElem (by rw [HTW.out.1]; exact hyl)⟩
    have htw : t.w = false := HTW.out.2 t (List.mem_of_getElem? ht)
    subst eq1
    subst eq3
    have p := fun i hi => (HQ.out.cell (p := ⟨b1, o1 + y * 5 + i, none⟩) hl1).trans (Sl.rowc (f := trow) (m := 5) (fun _ => rfl) HSL.out rfl ht i hi)
    have p0 : wq.cell? ⟨b1, o1 + y * 5, none⟩ = some (.bool false) := by rw [← htw]; exact p 0 (by decide)
    have p1 : wq.cell? ⟨b1, o1 + y * 5 + 1, none⟩ = some (.int .u32 t.a) := p 1 (by decide)
    have p2 : wq.cell? ⟨b1, o1 + y * 5 + 2, none⟩ = some (.int .u32 t.d) := p 2 (by decide)
    have p3 : wq.cell? ⟨b1, o1 + y * 5 + 3, none⟩ = some (.bool t.e) := p 3 (by decide)
    have p4 : wq.cell? ⟨b1, o1 + y * 5 + 4, none⟩ = some (.int .u32 t.r) := p 4 (by decide)
    obtain ⟨W, hW⟩ : ∃ W, wq.alloc (.cells #[.bool false, .int .u32 t.a, .int .u32 t.d, .bool t.e, .int .u32 t.r] 68) = W := ⟨_, rfl⟩
    have HBW : Hid (Below wq.heap.size wq W) := by rw [← hW]; exact (Below.refl _ _).alloc (Nat.le_refl _) _
    have HWW := hid_of hW
    have y0 : W.cell? ⟨wq.heap.size, 0, none⟩ = some (.bool false) := by rw [← hW]; exact (Blk.new wq _ 68).cell 0
    obtain ⟨KQ, hKQ⟩ : ∃ KQ : Act → World → Prop, KQ = fun a' w' => ((fun act wq => ∃ (u : Nat → Value) (y : Nat), act = fr9b a2 m c2 x (some ⟨b1, o1, none⟩) c5 y u ∧ y ≤ 4 ∧ Hid (Below w5.heap.size w5 wq)) a' w' ∧ 4 - (intOf (a'.tmps.getD 80 undef)).toNat < 4 - (intOf ((fr9b a2 m c2 x (some ⟨b1, o1, none⟩) c5 y u).tmps.getD 80 undef)).toNat) := ⟨_, rfl⟩
    have HKQ : Hid (∀ (act : Act) (w' : World), act = fr9b a2 m c2 x (some ⟨b1, o1, none⟩) c5 (y + 1) (fun i => act.tmps.getD i undef) → Below wq.heap.size wq w' → KQ act w') := fun act w' e h1 => by
      rw [hKQ]
      refine ⟨⟨_, y + 1, e, hyl, HQ.out.trans (h1.mono HQ.out.size)⟩, ?_⟩
      have e1 : act.tmps.getD 80 undef = .int .i64 ((y + 1 : Nat) : Int) := by rw [e]; rfl
      have e2 : (fr9b a2 m c2 x (some ⟨b1, o1, none⟩) c5 y u).tmps.getD 80 undef = .int .i64 ((y : Nat) : Int) := rfl
      simp only [e1, e2, intOf]
      omega
    rw [← hKQ]
    clear hKQ hy hyl p htw ht hW hl1
    unfold fr9b
    go_upto_region 18 with fail
    rw [HWW.out]
    clear p0 p1 p2 p3 p4
    go_wp2_with fail
    exact HKQ.out _ _ (by kernel_rfl) HBW.out
  · have HSM := hid_of (small_no a n c hn w)
    clear hs hn
    go_enter Try.func9, Try.ntmps9
    go_wp2_with fail
    refine HSM.out.mono ?_
    rintro e w0 ⟨rfl, hw0⟩
    obtain rfl := hw0.symm
    go_wp2_with fail
    go_ret
    exact ⟨rfl, Below.refl _ _⟩
end Go.Proofs.Qxb6500749a
