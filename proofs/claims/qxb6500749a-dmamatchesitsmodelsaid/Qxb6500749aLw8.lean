import Derived.Test.Qxb6500749aRng
import Derived.Test.Qxb6500749aLw10
import Derived.Test.Qxb6500749aSeq
namespace Go.Proofs.Qxb6500749a
open Go.RowKit
attribute [local go_sem] put_size put_cell_same put_cell_ne put_frozen_same put_frozen_ne put_setCell_same put_setCell_ne put_drew
attribute [local go_sem] drewN_setCell drewN_alloc drewN_put
/-! ### Law 8: the DMA master and its model -/
def fr8 (rg it : Nat) (u : Nat → Value) : Act :=
  { tmps := ((u 0) :: (u 1) :: (u 2) :: (.pointer (some ⟨rg, 0, none⟩)) :: (u 4) :: (u 5) :: (u 6) :: (u 7) :: (u 8) :: (u 9) :: (u 10) :: (u 11) :: (u 12) :: (u 13) :: (u 14) :: (u 15) :: (u 16) :: (u 17) :: (u 18) :: (u 19) :: (u 20) :: (u 21) :: (u 22) :: (u 23) :: (u 24) :: (u 25) :: (u 26) :: (u 27) :: (u 28) :: (u 29) :: (u 30) :: (u 31) :: (u 32) :: (u 33) :: (u 34) :: (u 35) :: (u 36) :: (u 37) :: (u 38) :: (u 39) :: (u 40) :: (u 41) :: (u 42) :: (u 43) :: (u 44) :: (u 45) :: (u 46) :: (u 47) :: (u 48) :: (u 49) :: (u 50) :: (u 51) :: (u 52) :: (u 53) :: (u 54) :: (u 55) :: (u 56) :: (u 57) :: (u 58) :: (u 59) :: (u 60) :: (u 61) :: (u 62) :: (u 63) :: (u 64) :: (u 65) :: (u 66) :: (u 67) :: (u 68) :: (.pointer (some ⟨it, 0, none⟩)) :: (u 70) :: (u 71) :: (u 72) :: (u 73) :: (u 74) :: (u 75) :: (u 76) :: (u 77) :: (u 78) :: (u 79) :: (u 80) :: (u 81) :: (u 82) :: [] : List Value).toArray, defers := [] }
theorem f8_plain {μ : Nat} {R : RG} (h : PI μ R) (hrun : R.run = true) (hd : R.hd = true) (hk : R.ko = false) (hs : R.DM.st ≠ 1) {k : Nat} (hst : (asN (as0 R.img R.desc) k).D.st ≠ 1) :
    (asN (as0 R.img R.desc) k).D.st = R.DM.st ∧ (asN (as0 R.img R.desc) k).m = R.uD.m ∧ (asN (as0 R.img R.desc) k).log = R.uD.log := by
  have hz := zR_no hk
  obtain ⟨n, h1 | h1⟩ := (h.go hrun hd fun q => by rw [hz] at q; exact absurd q (by decide)).out hs
  · have hn : (asN (as0 R.img R.desc) n).D.st ≠ 1 := by rw [← h1.1]; exact hs
    have e := asN_same hst hn
    rw [e]
    exact ⟨h1.1.symm, h1.2.1.symm, h1.2.2.symm⟩
  · have := h1.2.1
    rw [hz] at this
    exact absurd this (by decide)
theorem putO_heap_same (w : World) (b : Nat) (o : Obj) (h : b < w.heap.size) : (putO w b o).heap[b]? = some o := by simp [putO, h]
set_option linter.unusedSimpArgs false in
set_option maxRecDepth 100000 in
set_option maxHeartbeats 16000000 in
theorem law8_any (a : Option Addr) (n c : Nat) (s : Nat → OpD) (w : World) (hs : Scr w a n s) :
    Calls Try.prog 8 #[.slice a n c] w fun e w' => e = .returned (.bool true) ∧ Below w.heap.size w w' := by
  by_cases hn : n ≤ 65536
  · have HSM := hid_of (small_yes a n c hn w)
    have HPL := hid_of (play_any a n c s hn false false w hs)
    have hok := plyN_ok s false false n (fun k hk => hs.1 k hk)
    have hpi := pi_play s false false n (fun k hk => hs.1 k hk)
    have hkk := kk_play s false false n
    generalize plyN s false false n = R at *
    have HOK : Hid (PI 2305 R ∧ R.reps.length < 900000000 ∧ R.ko = false) := ⟨hpi, by have := hok.2; omega, hkk.2⟩
    clear hs hn hok hpi hkk
    go_enter Try.func8, Try.ntmps8
    go_wp2_with fail
    refine HSM.out.mono ?_
    rintro e w0 ⟨rfl, hw0⟩
    obtain rfl := hw0.symm
    clear HSM hw0
    go_wp2_with fail
    refine HPL.out.mono ?_
    rintro e w1 ⟨rfl, own, L, hr1, hb1, ho1, hl1⟩
    have HF1 : Hid (Calls Try.prog 31 #[.pointer (some ⟨w.heap.size + 5, 0, none⟩)] w1 fun e w' => e = .returned (.bool true) ∧ ∃ own' L' R', Fin own w1 R (w.heap.size + 5) w' own' L' R' (R.reps.length + 2400) 2305 ∧ R'.DM.st ≠ 1) := by
      have := finish_any own L R HOK.out.1 (fun _ z1 _ => by rw [zR_no HOK.out.2.2] at z1; exact absurd z1 (by decide)) HOK.out.2.1 w1 hr1
      rw [hl1] at this
      exact this
    have HB1 := hid_of hb1
    have HO1 := hid_of ho1
    clear HPL hr1 hb1 ho1 hl1
    go_wp2_with fail
    refine HF1.out.mono ?_
    rintro e w2 ⟨rfl, own2, L2, R2, hf2, hst2⟩
    have HR2 : Hid (RR own2 w2 L2 R2 ∧ L2.rg = w.heap.size + 5 ∧ R2.run = true ∧ PI 2305 R2 ∧ R2.DM.st ≠ 1 ∧ R2.reps.length < 1000000000 ∧ R2.ko = false) := ⟨hf2.rr, hf2.lrg, hf2.run, hf2.pi, hst2, by have := hf2.len; have := HOK.out.2.1; omega, hf2.kp.ko.trans HOK.out.2.2⟩
    have HB2 : Hid (Below w.heap.size w w2) := HB1.out.trans (below_of_ext hf2.ext HB1.out.size HO1.out)
    clear HF1 hf2 hst2 HB1 HO1 HOK
    have g18 : w2.cell? ⟨w.heap.size + 5, 18, none⟩ = some (.bool R2.hd) := by rw [← HR2.out.2.1]; exact HR2.out.1.rg.1.cell 18
    have HRR : Hid (∀ w3 : World, Below w2.heap.size w2 w3 → RR own2 w3 L2 R2) := fun w3 h => HR2.out.1.below h
    have HST : Hid (∀ w3 : World, Below w2.heap.size w2 w3 → Calls Try.prog 23 #[.pointer (some ⟨L2.db, 0, none⟩)] w3 fun e w' => e = .returned (.int .u8 R2.DM.st) ∧ w' = w3) := fun w3 h => status_any L2.db L2.bbD L2.ubD R2.DM w3 ((HRR.out w3 h).dma HR2.out.2.2.1).1
    obtain ⟨a1, c1, e1⟩ := HR2.out.1.uD.u.log.form'
    have HLG : Hid (∀ w3 : World, Below w2.heap.size w2 w3 → Calls Try.prog 13 #[.pointer (some ⟨L2.ubD, 0, none⟩)] w3 fun e w' => e = .returned (.slice a1 R2.uD.log.length c1) ∧ w' = w3) := fun w3 h => by rw [← e1]; exact log_any L2.ubD L2.mbD L2.lvD L2.gvD R2.uD w3 (HRR.out w3 h).uD.u
    have HC : Hid (∀ w3 : World, Below w2.heap.size w2 w3 → w3.cell? ⟨w.heap.size + 5, 21, none⟩ = some (.pointer (some ⟨L2.db, 0, none⟩)) ∧ w3.cell? ⟨w.heap.size + 5, 3, none⟩ = some (.pointer (some ⟨L2.ubD, 0, none⟩)) ∧ w3.cell? ⟨w.heap.size + 5, 1, none⟩ = some (.map (some L2.img)) ∧ w3.cell? ⟨w.heap.size + 5, 19, none⟩ = some (.int .u32 R2.desc)) := fun w3 h => by
      have h9 := (HRR.out w3 h).rg.1
      rw [HR2.out.2.1] at h9
      refine ⟨?_, h9.cell 3, h9.cell 1, h9.cell 19⟩
      have h8 : w3.cell? ⟨w.heap.size + 5, 21, none⟩ = some (ptr R2.run L2.db) := h9.cell 21
      rw [HR2.out.2.2.1] at h8
      exact h8
    have HE1 := hid_of e1
    clear e1
    cases hhd : R2.hd
    · rw [hhd] at g18
      have hid := HR2.out.2.2.2.1.idle HR2.out.2.2.1 hhd
      rw [hid.1] at HST
      rw [hid.2.1] at HLG
      obtain ⟨g21, g3, _, _⟩ := HC.out w2 (Below.refl _ _)
      clear hid hhd
      go_wp2_with fail
      refine (HST.out w2 (Below.refl _ _)).mono ?_
      rintro e w3 ⟨rfl, hw3⟩
      obtain rfl := hw3.symm
      clear hw3
      go_wp2_with fail
      refine (HLG.out w2 (Below.refl _ _)).mono ?_
      rintro e w3 ⟨rfl, hw3⟩
      obtain rfl := hw3.symm
      clear hw3
      simp only [List.length_nil]
      go_wp2_with fail
      go_ret
      exact ⟨rfl, HB2.out⟩
    rw [hhd] at g18
    have HHD := hid_of hhd
    obtain ⟨g21, g3, g1, g19⟩ := HC.out w2 (Below.refl _ _)
    have HCL := hid_of (mclone_any L2.img R2.img w2 HR2.out.1.img.1)
    clear hhd g21 g3 g19
    go_wp2_with fail
    refine HCL.out.mono ?_
    rintro e w3 ⟨rfl, hm3, hb3⟩
    have HM3 := hid_of hm3
    have HB3 := hid_of hb3
    obtain ⟨g21, g3, _, g19⟩ := HC.out w3 hb3
    have HDM := hid_of (dmam_any w2.heap.size R2.img R2.desc HR2.out.2.2.2.1.wi HR2.out.2.2.2.1.ok.desc w3 hm3)
    clear HCL hm3 hb3 g1 g18 g21 g3
    go_wp2_with fail
    refine HDM.out.mono ?_
    rintro e w4 ⟨v, k, rfl, hk1, hk2, hk3, hk4, hk5⟩
    have hpl := f8_plain HR2.out.2.2.2.1 HR2.out.2.2.1 HHD.out HR2.out.2.2.2.2.2.2 HR2.out.2.2.2.2.1 hk1
    rw [hpl.1]
    rw [hpl.2.2] at hk2
    rw [hpl.2.1] at hk3
    have HB4 : Hid (Below w2.heap.size w2 w4) := ⟨hk4.os.trans HB3.out.os, hk4.tape.trans HB3.out.tape, hk4.output.trans HB3.out.output, Nat.le_trans HB3.out.size hk4.size, fun b hb => (hk4.block b (Nat.lt_of_lt_of_le hb HB3.out.size) (by omega)).trans (HB3.out.block b hb)⟩
    have HV := hid_of hk2
    have HMM := hid_of hk3
    obtain ⟨g21, g3, _, _⟩ := HC.out w4 HB4.out
    have HEQ : Hid (Calls Try.prog 28 #[.slice a1 R2.uD.log.length c1, v] w4 fun e w' => e = .returned (.bool true) ∧ ∃ q', w' = w4.drewN q') := by
      rw [← HE1.out]
      exact eqTr_yes L2.gvD v R2.uD.log w4 (HRR.out w4 HB4.out).uD.u.log hk2 (by have := HR2.out.2.2.2.1.ok.uD.glen; have := HR2.out.2.2.2.2.2.1; omega)
    obtain ⟨st, hst⟩ : ∃ st, R2.DM.st = st := ⟨_, rfl⟩
    obtain ⟨ln, hln⟩ : ∃ ln, R2.uD.log.length = ln := ⟨_, rfl⟩
    rw [hst] at HST ⊢
    rw [hln] at HLG HEQ
    clear HDM hk1 hk2 hk3 hk4 hk5 hpl hst hln g19 HM3 HB3 HHD
    go_wp2_with fail
    refine (HST.out w4 HB4.out).mono ?_
    rintro e w5 ⟨rfl, hw5⟩
    obtain rfl := hw5.symm
    clear hw5 HST
    go_wp2_with fail
    refine (HLG.out w4 HB4.out).mono ?_
    rintro e w5 ⟨rfl, hw5⟩
    obtain rfl := hw5.symm
    clear hw5 HLG
    go_wp2_with fail
    refine HEQ.out.mono ?_
    rintro e w5 ⟨rfl, q5, hq5⟩
    have HB5 : Hid (Below w2.heap.size w2 w5) := by rw [hq5]; exact below_drewN' HB4.out
    have hM5 : MapB w5 w2.heap.size R2.uD.m := by rw [hq5]; exact HMM.out.drewN q5
    clear HEQ hq5 HB4 HV HMM g21 g3
    obtain ⟨V, hV⟩ : ∃ V, w5 = V := ⟨_, rfl⟩
    rw [hV] at HB5 hM5 ⊢
    clear hV
    obtain ⟨es, clock, hbm, hwo, huq, hmg⟩ := hM5
    have hrg := run_range_map (P := Try.prog) V 28 30 30 w2.heap.size es clock Try.underlying28 hbm
    have HUQ : Hid (Words es.toList ∧ Uq es.toList clock ∧ ∀ a, mget es.toList a = R2.uD.m a) := ⟨hwo, huq, hmg⟩
    have hmlt : w2.heap.size < V.heap.size := (Array.getElem?_eq_some_iff.1 hbm).1
    have HBM := hid_of hbm
    have HML := hid_of hmlt
    clear hwo huq hmg hbm hmlt
    go_wp2_with fail
    refine q_of (Q := fun a => (Code.loop _).wp Try.prog _ a _) (F := fr8 (w.heap.size + 5) V.heap.size) (fun u0 => ?_) _ (by kernel_rfl)
    refine wp_loop (fun act wr => ∃ (u : Nat → Value) (seen : Array Nat), act = fr8 (w.heap.size + 5) V.heap.size u ∧ Hid (wr.heap[V.heap.size]? = some (.mapIter (some w2.heap.size) clock seen clock) ∧ Below V.heap.size V wr)) (fun _ wr => (leftOf es (wr.iterSeen V.heap.size)).size) ⟨u0, #[], rfl, by show (V.heap.push _)[V.heap.size]? = _; simp, (Below.refl _ _).alloc (Nat.le_refl _) _⟩ ?_
    clear hrg
    rintro act wr ⟨u, seen, rfl, hI⟩
    obtain ⟨hit, hbw⟩ := hI.out
    have hbm2 : wr.heap[w2.heap.size]? = some (.map es clock) := (hbw.block _ HML.out).trans HBM.out
    have hms : Hid ((leftOf es (wr.iterSeen V.heap.size)).size = (leftOf es seen).size) := by unfold Hid World.iterSeen; rw [hit]
    rcases run_next_at (P := Try.prog) wr 0 V.heap.size w2.heap.size clock clock seen es clock hit hbm2 HUQ.out.2.1.old (Nat.le_refl _) with ⟨h0, hrun⟩ | ⟨e, he, wd, hwd, hrun⟩
    · have hnx : ∀ ty, (Instr.next (.pointer (some ⟨V.heap.size, 0, none⟩)) false ty).run Try.prog wr = _ := fun _ => hrun
      have HFIN : Hid (Below w.heap.size w wr) := HB2.out.trans ((HB5.out.trans (hbw.mono HB5.out.size)).mono HB2.out.size)
      clear hI hit hbw hbm2 hrun
      unfold fr8
      go_wp2_with fail
      go_ret
      exact ⟨rfl, HFIN.out⟩
    · have hnx : ∀ ty, (Instr.next (.pointer (some ⟨V.heap.size, 0, none⟩)) false ty).run Try.prog wr = _ := fun _ => hrun
      obtain ⟨ka, kd, k1, k2⟩ := HUQ.out.1 e (mem_left he).1
      have hval : R2.uD.m ka = kd := by
        rw [← HUQ.out.2.2 ka, mget_of_mem HUQ.out.2.1.key (mem_left he).1 (by rw [k1]; simp [keyIs]), k2]
        rfl
      have hlt : V.heap.size < wr.heap.size := (Array.getElem?_eq_some_iff.1 hit).1
      have hbd : Below V.heap.size V wd := by rcases hwd with rfl | rfl <;> exact ⟨hbw.os, hbw.tape, hbw.output, hbw.size, hbw.block⟩
      have hsd : wd.heap.size = wr.heap.size := by rcases hwd with rfl | rfl <;> rfl
      have hbo : Below V.heap.size V (putO wd V.heap.size (.mapIter (some w2.heap.size) clock (seen.push e.born) clock)) := ⟨hbd.os, hbd.tape, hbd.output, by simp [putO]; exact hbd.size, fun k hk => (putO_ne _ _ _ _ (by omega)).trans (hbd.block k hk)⟩
      have hit2 : (putO wd V.heap.size (.mapIter (some w2.heap.size) clock (seen.push e.born) clock)).heap[V.heap.size]? = some (.mapIter (some w2.heap.size) clock (seen.push e.born) clock) := putO_heap_same _ _ _ (by omega)
      have hen := run_entry_at (P := Try.prog) (putO wd V.heap.size (.mapIter (some w2.heap.size) clock (seen.push e.born) clock)) V.heap.size w2.heap.size clock seen es clock e hit2 ((hbo.block _ HML.out).trans HBM.out) (mem_left he).1 HUQ.out.2.1.nd
      rw [k1, k2] at hen
      rw [k1, k2] at hnx
      have HMS : Hid ((leftOf es (seen.push e.born)).size < (leftOf es (wr.iterSeen V.heap.size)).size) := by
        unfold Hid; rw [hms.out]; exact left_shrinks es seen e he
      have HIT := hid_of hit2
      have HBO := hid_of hbo
      clear hI hit hbw hbm2 hrun hms hwd hbd hsd hit2 hbo he hlt k1 k2
      generalize putO wd V.heap.size (.mapIter (some w2.heap.size) clock (seen.push e.born) clock) = X at *
      generalize seen.push e.born = seen2 at *
      have HBX : Hid (Below w2.heap.size w2 X) := HB5.out.trans (HBO.out.mono HB5.out.size)
      obtain ⟨_, g3, _, _⟩ := HC.out X HBX.out
      have HWD : Hid (Calls Try.prog 32 #[.pointer (some ⟨L2.ubD, 0, none⟩), .int .u32 ka] X fun e w' => e = .returned (.int .u32 kd) ∧ w' = X) := by
        rw [← hval]
        exact word_any L2.ubD L2.mbD L2.lvD L2.gvD R2.uD ka X (HRR.out X HBX.out).uD.u
      obtain ⟨KR, hKR⟩ : ∃ KR : Act → World → Prop, KR = fun a' w' => ((fun act wr => ∃ (u : Nat → Value) (seen : Array Nat), act = fr8 (w.heap.size + 5) V.heap.size u ∧ Hid (wr.heap[V.heap.size]? = some (.mapIter (some w2.heap.size) clock seen clock) ∧ Below V.heap.size V wr)) a' w' ∧ (leftOf es (w'.iterSeen V.heap.size)).size < (leftOf es (wr.iterSeen V.heap.size)).size) := ⟨_, rfl⟩
      have HKR : Hid (∀ (act : Act), act = fr8 (w.heap.size + 5) V.heap.size (fun i => act.tmps.getD i undef) → KR act X) := fun act e => by
        rw [hKR]
        refine ⟨⟨_, seen2, e, HIT.out, HBO.out⟩, ?_⟩
        have e9 : X.iterSeen V.heap.size = seen2 := by unfold World.iterSeen; rw [HIT.out]
        rw [e9]
        exact HMS.out
      rw [← hKR]
      clear hKR hval HUQ HBM HML HC HRR HR2
      unfold fr8
      go_wp2_with fail
      refine HWD.out.mono ?_
      rintro e6 w6 ⟨rfl, hw6⟩
      obtain rfl := hw6.symm
      clear hw6 HWD hnx hen
      go_wp2_with fail
      exact HKR.out _ (by kernel_rfl)
  · have HSM := hid_of (small_no a n c hn w)
    clear hs hn
    go_enter Try.func8, Try.ntmps8
    go_wp2_with fail
    refine HSM.out.mono ?_
    rintro e w0 ⟨rfl, hw0⟩
    obtain rfl := hw0.symm
    go_wp2_with fail
    go_ret
    exact ⟨rfl, Below.refl _ _⟩
end Go.Proofs.Qxb6500749a
