import Derived.Test.Qxb6500749aDsn
import Derived.Test.Qxb6500749aReg3
namespace Go.Proofs.Qxb6500749a
open Go.RowKit
attribute [local go_sem] put_size put_cell_same put_cell_ne put_frozen_same put_frozen_ne put_setCell_same put_setCell_ne put_drew
attribute [local go_sem] drewN_setCell drewN_alloc drewN_put
/-! ### Law 10: a single fault in the DMA master -/
/-- A rig beside another that plays on. -/
theorem RR.beside {own2 own1 own3 : Nat → Nat} {w2 w3 : World} {L : LY} {R : RG} (h : RR own2 w2 L R) (x : Ext own1 own3 (fun k => k ≤ 18) w2 w3) (hm : ∀ k, k < w2.heap.size → own2 k = 50 ∨ own1 k = 50) : RR own2 w3 L R :=
  h.ext (S := fun k => k = 50) ⟨x.os, x.tape, x.output, x.size, fun _ _ => rfl, fun k hk hs => x.block k hk (by rcases hm k hk with q | q; exact absurd q hs; rw [q]; decide)⟩ (fun _ hk q => by omega)
theorem RR.marked {own : Nat → Nat} {w w' : World} {L : LY} {R : RG} (h : RR own w L R) (hb : Below w.heap.size w w') : RR (mark own w.heap.size 50) w' L R :=
  h.ext (S := fun _ => False) ⟨hb.os, hb.tape, hb.output, hb.size, fun _ hk => mark_lt hk, fun k hk _ => hb.block k hk⟩ (fun _ _ q => q)
/-- Two rigs side by side. -/
structure Two (w wr : World) (ownF ownR : Nat → Nat) (LF LR : LY) (F R : RG) : Prop where
  f : RR ownF wr LF F
  r : RR ownR wr LR R
  be : Below w.heap.size w wr
theorem below_of_ext {own own' : Nat → Nat} {B : Nat} {w w' : World} (x : Ext own own' (fun k => k ≤ 18) w w') (hB : B ≤ w.heap.size) (h : ∀ k, k < B → own k = 50) : Below B w w' :=
  ⟨x.os, x.tape, x.output, x.size, fun k hk => x.block k (Nat.lt_of_lt_of_le hk hB) (by rw [h k hk]; decide)⟩
structure P2 (w w1 w1' w2 : World) (own1 own2 : Nat → Nat) (L1 L2 : LY) (F R : RG) : Prop where
  r1 : RR own1 w1 L1 F
  b1 : Below w.heap.size w w1
  o1 : ∀ k, k < w.heap.size → own1 k = 50
  b1' : Below w1.heap.size w1 w1'
  r2 : RR own2 w2 L2 R
  b2 : Below w1'.heap.size w1' w2
  o2 : ∀ k, k < w1'.heap.size → own2 k = 50
section
variable {w w1 w1' w2 w3 w4 : World} {own1 own2 own3 own4 : Nat → Nat} {L1 L2 L3 L4 : LY} {F R F' R' : RG}
theorem P2.f (h : P2 w w1 w1' w2 own1 own2 L1 L2 F R) : RR (mark own1 w1.heap.size 50) w2 L1 F := h.r1.marked (h.b1'.trans (h.b2.mono h.b1'.size))
theorem P2.r (h : P2 w w1 w1' w2 own1 own2 L1 L2 F R) (x : Ext (mark own1 w1.heap.size 50) own3 (fun k => k ≤ 18) w2 w3) : RR (mark own2 w2.heap.size 50) w3 L2 R := by
  have h0 : RR own2 w3 L2 R := h.r2.beside x fun k hk => by
    rcases Nat.lt_or_ge k w1'.heap.size with q | q
    · exact .inl (h.o2 k q)
    · exact .inr (mark_ge (Nat.le_trans h.b1'.size q))
  have h1 : RR (mark own2 w2.heap.size 50) w2 L2 R := h.r2.marked (Below.refl _ _)
  exact h1.beside x fun k hk => by
    rcases Nat.lt_or_ge k w1'.heap.size with q | q
    · left; rw [mark_lt hk]; exact h.o2 k q
    · exact .inr (mark_ge (Nat.le_trans h.b1'.size q))
theorem P2.two (h : P2 w w1 w1' w2 own1 own2 L1 L2 F R) (x : Ext (mark own1 w1.heap.size 50) own3 (fun k => k ≤ 18) w2 w3) (y : Ext (mark own2 w2.heap.size 50) own4 (fun k => k ≤ 18) w3 w4) (hf : RR own3 w3 L3 F') (hr : RR own4 w4 L4 R') : Two w w4 own3 own4 L3 L4 F' R' := by
  have s1 := h.b1.size
  have s2 := h.b1'.size
  have s3 := h.b2.size
  refine ⟨hf.beside y fun k hk => ?_, hr, ?_⟩
  · rcases Nat.lt_or_ge k w1'.heap.size with q | q
    · right; rw [mark_lt (by omega)]; exact h.o2 k q
    · rcases Nat.lt_or_ge k w2.heap.size with q2 | q2
      · left; rw [x.keep k q2]; exact mark_ge (by omega)
      · exact .inr (mark_ge q2)
  · have e1 := below_of_ext (B := w.heap.size) x (by omega) (fun k hk => by rw [mark_lt (by omega)]; exact h.o1 k hk)
    have e2 := below_of_ext (B := w.heap.size) y (by have := x.size; omega) (fun k hk => by rw [mark_lt (by omega)]; exact h.o2 k (by omega))
    exact ((h.b1.trans (h.b1'.mono s1)).trans (h.b2.mono (by omega))).trans (e1.trans e2)
end
set_option linter.unusedSimpArgs false in
set_option maxRecDepth 100000 in
set_option maxHeartbeats 16000000 in
theorem law10_any (a : Option Addr) (n c : Nat) (s : Nat → OpD) (w : World) (hs : Scr w a n s) :
    Calls Try.prog 10 #[.slice a n c] w fun e w' => e = .returned (.bool true) ∧ Below w.heap.size w w' := by
  by_cases hn : n ≤ 65536
  · have HS := hid_of hs
    have HSM := hid_of (small_yes a n c hn w)
    have HPL := hid_of (play_any a n c s hn false true w hs)
    have hok := plyN_ok s false true n (fun k hk => hs.1 k hk)
    have hok2 := plyN_ok s false false n (fun k hk => hs.1 k hk)
    have hpi := pi_play s false true n (fun k hk => hs.1 k hk)
    have hpi2 := pi_play s false false n (fun k hk => hs.1 k hk)
    have hsc := sc_play s false true false false n
    have hkk := kk_play s false true n
    have hkk2 := kk_play s false false n
    have HN := hid_of hn
    have HPL2 : Hid (∀ w1' : World, Scr w1' a n s → Calls Try.prog 12 #[.slice a n c, .bool false, .bool false] w1' fun e w' => e = .returned (.pointer (some ⟨w1'.heap.size + 5, 0, none⟩)) ∧ ∃ own L, RR own w' L (plyN s false false n) ∧ Below w1'.heap.size w1' w' ∧ (∀ k, k < w1'.heap.size → own k = 50) ∧ L.rg = w1'.heap.size + 5) := fun w1' h => play_any a n c s hn false false w1' h
    generalize plyN s false true n = F at *
    generalize plyN s false false n = R at *
    have HOK : Hid (ROk F ∧ ROk R ∧ F.reps.length < 900000000 ∧ R.reps.length < 900000000) := ⟨hok.1, hok2.1, by have := hok.2; omega, by have := hok2.2; omega⟩
    have HPI : Hid (PI 2305 F ∧ PI 2305 R ∧ Sc F R ∧ F.ko = true ∧ R.ko = false) := ⟨hpi, hpi2, hsc, hkk.2, hkk2.2⟩
    clear hs hn hok hok2 hpi hpi2 hsc hkk hkk2
    go_enter Try.func10, Try.ntmps10
    go_wp2_with fail
    refine HSM.out.mono ?_
    rintro e w0 ⟨rfl, hw0⟩
    obtain rfl := hw0.symm
    clear HSM hw0
    go_wp2_with fail
    refine HPL.out.mono ?_
    rintro e w1 ⟨rfl, own, L, hr1, hb1, ho1, hl1⟩
    have HR1 := hid_of hr1
    have HB1 := hid_of hb1
    have HO1 := hid_of ho1
    have HL1 := hid_of hl1
    have g5 : w1.cell? ⟨w.heap.size + 5, 5, none⟩ = some (.bool F.ho) := by rw [← hl1]; exact hr1.rg.1.cell 5
    have g11 : w1.cell? ⟨w.heap.size + 5, 11, none⟩ = some (.int .u32 F.fo.site) := by rw [← hl1]; exact hr1.rg.1.cell 11
    have g18 : w1.cell? ⟨w.heap.size + 5, 18, none⟩ = some (.bool F.hd) := by rw [← hl1]; exact hr1.rg.1.cell 18
    have HSD := hid_of (sound_any own L F HPI.out.1.wi w1 hr1)
    rw [hl1] at HSD
    clear HPL ho1 hr1 hb1 hl1
    cases hho : F.ho
    · rw [hho] at g5
      clear HSD
      go_wp2_with fail
      go_ret
      exact ⟨rfl, HB1.out⟩
    rw [hho] at g5
    by_cases hs1 : F.fo.site < 49
    · clear HSD
      go_wp2_with fail
      go_ret
      exact ⟨rfl, HB1.out⟩
    by_cases hs2 : F.fo.site ≥ 55
    · clear HSD
      go_wp2_with fail
      go_ret
      exact ⟨rfl, HB1.out⟩
    cases hhd : F.hd
    · rw [hhd] at g18
      clear HSD
      go_wp2_with fail
      go_ret
      exact ⟨rfl, HB1.out⟩
    rw [hhd] at g18
    cases hsd : sndB F.img F.desc
    · rw [hsd] at HSD
      go_wp2_with fail
      refine HSD.out.mono ?_
      rintro e w2 ⟨rfl, hb2⟩
      have HB2 : Hid (Below w.heap.size w w2) := HB1.out.trans (hb2.mono HB1.out.size)
      clear HSD hb2
      go_wp2_with fail
      go_ret
      exact ⟨rfl, HB2.out⟩
    rw [hsd] at HSD
    have HFX : Hid (F.ho = true ∧ F.hd = true ∧ sndM F.img F.desc) := ⟨hho, hhd, (sndB_iff _ _).1 hsd⟩
    clear hho hhd hsd
    go_wp2_with fail
    refine HSD.out.mono ?_
    rintro e w1' ⟨rfl, hb1'⟩
    have HB1' := hid_of hb1'
    have HPL3 := hid_of (HPL2.out w1' (HS.out.below (HB1.out.trans (hb1'.mono HB1.out.size))))
    clear HSD hb1' g5 g11 g18 HPL2
    go_wp2_with fail
    refine HPL3.out.mono ?_
    rintro e w2 ⟨rfl, own2, L2, hr2, hb2, ho2, hl2⟩
    have HP2 : Hid (P2 w w1 w1' w2 own own2 L L2 F R) := ⟨HR1.out, HB1.out, HO1.out, HB1'.out, hr2, hb2, ho2⟩
    have HL2 := hid_of hl2
    clear HPL3 hr2 hb2 ho2 hl2 HB1' HR1 HB1 HO1 hs1 hs2
    have HF1 : Hid (Calls Try.prog 31 #[.pointer (some ⟨w.heap.size + 5, 0, none⟩)] w2.drew fun e w' => e = .returned (.bool true) ∧ ∃ own' L' R', Fin (mark own w1.heap.size 50) w2.drew F (w.heap.size + 5) w' own' L' R' (F.reps.length + 2400) 2305 ∧ R'.DM.st ≠ 1) := by
      have := finish_any (mark own w1.heap.size 50) L F HPI.out.1 (fun _ _ _ => HFX.out.2.2) HOK.out.2.2.1 w2.drew HP2.out.f.drew
      rw [HL1.out] at this
      exact this
    go_upto_region 7 with fail
    refine wp_region_ctc [0, 1, 2, 3, 4, 5, 6, 7, 8] [9, 10, 11, 12, 14, 15, 16, 17] [13, 18, 19, 20, 21] 0 [9, 10, 11, 14, 15, 16] mixed (by kernel_rfl) rfl (by kernel_rfl) (by kernel_rfl) (by kernel_rfl) ?_
    refine wpCh_rest _ _ _ _ [_, _, _, _, _, _, _, _, _] _ _ rfl (by kernel_rfl) ?_
    simp only [List.getElem_toArray, List.getElem_cons_succ, List.getElem_cons_zero]
    go_wp2_with fail
    refine HF1.out.mono ?_
    rintro e w3 ⟨rfl, own3, L3, F', hf3, hst3⟩
    have HX3 : Hid (Ext (mark own w1.heap.size 50) own3 (fun k => k ≤ 18) w2 w3) := ⟨hf3.ext.os, hf3.ext.tape, hf3.ext.output, hf3.ext.size, hf3.ext.keep, hf3.ext.block⟩
    have HF3 : Hid (RR own3 w3 L3 F' ∧ Kp F F' ∧ L3.rg = w.heap.size + 5 ∧ F'.run = true ∧ PI 2305 F' ∧ F'.DM.st ≠ 1 ∧ F'.reps.length < 1000000000) := ⟨hf3.rr, hf3.kp, hf3.lrg, hf3.run, hf3.pi, hst3, by have := hf3.len; have := HOK.out.2.2.1; omega⟩
    have HF2 : Hid (Calls Try.prog 31 #[.pointer (some ⟨w1'.heap.size + 5, 0, none⟩)] w3 fun e w' => e = .returned (.bool true) ∧ ∃ own' L' R', Fin (mark own2 w2.heap.size 50) w3 R (w1'.heap.size + 5) w' own' L' R' (R.reps.length + 2400) 2305 ∧ R'.DM.st ≠ 1) := by
      have := finish_any (mark own2 w2.heap.size 50) L2 R HPI.out.2.1 (fun _ z1 z2 => by rw [zR_no HPI.out.2.2.2.2] at z1; exact absurd z1 (by decide)) HOK.out.2.2.2 w3 (HP2.out.r HX3.out)
      rw [HL2.out] at this
      exact this
    clear HF1 hf3 hst3
    go_wp2_with fail
    refine HF2.out.mono ?_
    rintro e w4 ⟨rfl, own4, L4, R', hf4, hst4⟩
    have HT : Hid (Two w w4 own3 own4 L3 L4 F' R') := HP2.out.two HX3.out hf4.ext HF3.out.1 hf4.rr
    have HF4 : Hid (Kp R R' ∧ L4.rg = w1'.heap.size + 5 ∧ R'.run = true ∧ PI 2305 R' ∧ R'.DM.st ≠ 1 ∧ R'.reps.length < 1000000000) := ⟨hf4.kp, hf4.lrg, hf4.run, hf4.pi, hst4, by have := hf4.len; have := HOK.out.2.2.2; omega⟩
    have hpl := f10_plain HF3.out.2.2.2.2.1 hf4.pi (HPI.out.2.2.1.kp HF3.out.2.1 hf4.kp (HF3.out.2.2.2.1.trans hf4.run.symm)) HF3.out.2.2.2.1 (HF3.out.2.1.hd.trans HFX.out.2.1) (hf4.kp.ko.trans HPI.out.2.2.2.2) (by rw [HF3.out.2.1.img, HF3.out.2.1.desc]; exact HFX.out.2.2) HF3.out.2.2.2.2.2.1 hst4
    obtain ⟨y, hy, hyy⟩ := hpl
    have HY : Hid (R'.uD.log = F'.uD.log ++ y ∧ ((F'.DM.st = 3 ∨ F'.DM.st = 5) ∨ (F'.DM.st = R'.DM.st ∧ y = []))) := ⟨hy, hyy⟩
    clear HF2 hf4 hst4 HP2 HX3 hy hyy
    obtain ⟨a1, c1, e1⟩ := HT.out.f.uD.u.log.form'
    obtain ⟨a2, c2, e2⟩ := HT.out.r.uD.u.log.form'
    have k3 : w4.cell? ⟨w.heap.size + 5, 3, none⟩ = some (.pointer (some ⟨L3.ubD, 0, none⟩)) := by rw [← HF3.out.2.2.1]; exact HT.out.f.rg.1.cell 3
    have k4 : w4.cell? ⟨w1'.heap.size + 5, 3, none⟩ = some (.pointer (some ⟨L4.ubD, 0, none⟩)) := by rw [← HF4.out.2.1]; exact HT.out.r.rg.1.cell 3
    have HLA : Hid (∀ w5 : World, Below w4.heap.size w4 w5 → Calls Try.prog 13 #[.pointer (some ⟨L3.ubD, 0, none⟩)] w5 fun e w' => e = .returned (.slice a1 F'.uD.log.length c1) ∧ w' = w5) := fun w5 h => by rw [← e1]; exact log_any L3.ubD L3.mbD L3.lvD L3.gvD F'.uD w5 (HT.out.f.below h).uD.u
    have HLB : Hid (∀ w5 : World, Below w4.heap.size w4 w5 → Calls Try.prog 13 #[.pointer (some ⟨L4.ubD, 0, none⟩)] w5 fun e w' => e = .returned (.slice a2 R'.uD.log.length c2) ∧ w' = w5) := fun w5 h => by rw [← e2]; exact log_any L4.ubD L4.mbD L4.lvD L4.gvD R'.uD w5 (HT.out.r.below h).uD.u
    have HIP : Hid (Calls Try.prog 16 #[.slice a1 F'.uD.log.length c1, .slice a2 R'.uD.log.length c2] w4 fun e w' => e = .returned (.bool true) ∧ Below w4.heap.size w4 w') := by
      have h9 := HT.out.r.uD.u.log
      rw [HY.out.1] at h9
      have := isPre_yes L3.gvD L4.gvD F'.uD.log y w4 HT.out.f.uD.u.log h9 (by rw [← HY.out.1]; have := HF4.out.2.2.2.1.ok.uD.glen; have := HF4.out.2.2.2.2.2; omega)
      rw [e1, e2] at this
      exact this
    obtain ⟨n1, hn1⟩ : ∃ n1, F'.uD.log.length = n1 := ⟨_, rfl⟩
    obtain ⟨n2, hn2⟩ : ∃ n2, R'.uD.log.length = n2 := ⟨_, rfl⟩
    rw [hn1] at HLA HIP
    rw [hn2] at HLB HIP
    have HNQ : Hid (y = [] → n1 = n2) := fun q => by rw [← hn1, ← hn2, HY.out.1, q, List.append_nil]
    clear e1 e2 hn1 hn2
    go_wp2_with fail
    refine ⟨fun ω => ω.cell? ⟨w.heap.size + 5, 3, none⟩ = some (.pointer (some ⟨L3.ubD, 0, none⟩)) ∧ ω.cell? ⟨w1'.heap.size + 5, 3, none⟩ = some (.pointer (some ⟨L4.ubD, 0, none⟩)), ⟨k3, k4⟩, ?_⟩
    have HK34 : Hid (w4.cell? ⟨w.heap.size + 5, 3, none⟩ = some (.pointer (some ⟨L3.ubD, 0, none⟩)) ∧ w4.cell? ⟨w1'.heap.size + 5, 3, none⟩ = some (.pointer (some ⟨L4.ubD, 0, none⟩))) := ⟨k3, k4⟩
    clear k3 k4
    refine wpFl_yes _ _ _ (.pointer (some ⟨w.heap.size + 5, 0, none⟩)) rfl (by kernel_rfl) (fun ω hj => ?_) ?_
    · clear hj
      go_simp
      try rfl
    simp only [List.getElem_toArray, List.getElem_cons_succ, List.getElem_cons_zero, Act.put, List.setIfInBounds_toArray, List.set_cons_succ, List.set_cons_zero]
    refine wpFl_yes _ _ _ (.pointer (some ⟨w.heap.size + 5, 0, none⟩)) rfl (by kernel_rfl) (fun ω hj => ?_) ?_
    · clear hj
      go_simp
      try rfl
    simp only [List.getElem_toArray, List.getElem_cons_succ, List.getElem_cons_zero, Act.put, List.setIfInBounds_toArray, List.set_cons_succ, List.set_cons_zero]
    refine wpFl_yes _ _ _ (.pointer (some ⟨w.heap.size + 5, 3, none⟩)) rfl (by kernel_rfl) (fun ω hj => ?_) ?_
    · clear hj
      go_simp
      try rfl
    simp only [List.getElem_toArray, List.getElem_cons_succ, List.getElem_cons_zero, Act.put, List.setIfInBounds_toArray, List.set_cons_succ, List.set_cons_zero]
    refine wpFl_yes _ _ _ (.pointer (some ⟨L3.ubD, 0, none⟩)) rfl (by kernel_rfl) (fun ω hj => ?_) ?_
    · have j1 := (hj rfl).1
      clear hj
      go_simp
      try rfl
    simp only [List.getElem_toArray, List.getElem_cons_succ, List.getElem_cons_zero, Act.put, List.setIfInBounds_toArray, List.set_cons_succ, List.set_cons_zero]
    refine wpFl_yes _ _ _ (.pointer (some ⟨w1'.heap.size + 5, 0, none⟩)) rfl (by kernel_rfl) (fun ω hj => ?_) ?_
    · clear hj
      go_simp
      try rfl
    simp only [List.getElem_toArray, List.getElem_cons_succ, List.getElem_cons_zero, Act.put, List.setIfInBounds_toArray, List.set_cons_succ, List.set_cons_zero]
    refine wpFl_yes _ _ _ (.pointer (some ⟨w1'.heap.size + 5, 0, none⟩)) rfl (by kernel_rfl) (fun ω hj => ?_) ?_
    · clear hj
      go_simp
      try rfl
    simp only [List.getElem_toArray, List.getElem_cons_succ, List.getElem_cons_zero, Act.put, List.setIfInBounds_toArray, List.set_cons_succ, List.set_cons_zero]
    refine wpFl_yes _ _ _ (.pointer (some ⟨w1'.heap.size + 5, 3, none⟩)) rfl (by kernel_rfl) (fun ω hj => ?_) ?_
    · clear hj
      go_simp
      try rfl
    simp only [List.getElem_toArray, List.getElem_cons_succ, List.getElem_cons_zero, Act.put, List.setIfInBounds_toArray, List.set_cons_succ, List.set_cons_zero]
    refine wpFl_yes _ _ _ (.pointer (some ⟨L4.ubD, 0, none⟩)) rfl (by kernel_rfl) (fun ω hj => ?_) ?_
    · have j1 := (hj rfl).2
      clear hj
      go_simp
      try rfl
    simp only [List.getElem_toArray, List.getElem_cons_succ, List.getElem_cons_zero, Act.put, List.setIfInBounds_toArray, List.set_cons_succ, List.set_cons_zero]
    refine wpFl_nil _ _ ?_
    refine wpCh_one _ _ _ _ rfl ?_
    simp only [List.getElem_toArray, List.getElem_cons_succ, List.getElem_cons_zero, Act.put, List.setIfInBounds_toArray, List.set_cons_succ, List.set_cons_zero]
    go_wp2_with fail
    refine (HLA.out w4 (Below.refl _ _)).mono ?_
    rintro e w5 ⟨rfl, hw5⟩
    obtain rfl := hw5.symm
    clear hw5
    go_wp2_with fail
    refine ⟨HK34.out, ?_⟩
    refine wpCh_rest _ _ _ _ [_, _, _, _] _ _ rfl (by kernel_rfl) ?_
    simp only [List.getElem_toArray, List.getElem_cons_succ, List.getElem_cons_zero, Act.put, List.setIfInBounds_toArray, List.set_cons_succ, List.set_cons_zero]
    go_wp2_with fail
    refine (HLB.out w4 (Below.refl _ _)).mono ?_
    rintro e w5 ⟨rfl, hw5⟩
    obtain rfl := hw5.symm
    clear hw5
    go_wp2_with fail
    refine HIP.out.mono ?_
    rintro e w5 ⟨rfl, hb5⟩
    have HT5 : Hid (Two w w5 own3 own4 L3 L4 F' R') := ⟨HT.out.f.below hb5, HT.out.r.below hb5, HT.out.be.trans (hb5.mono HT.out.be.size)⟩
    have HLA5 : Hid (∀ w6 : World, Below w5.heap.size w5 w6 → Calls Try.prog 13 #[.pointer (some ⟨L3.ubD, 0, none⟩)] w6 fun e w' => e = .returned (.slice a1 n1 c1) ∧ w' = w6) := fun w6 h => HLA.out w6 (hb5.trans (h.mono hb5.size))
    have HLB5 : Hid (∀ w6 : World, Below w5.heap.size w5 w6 → Calls Try.prog 13 #[.pointer (some ⟨L4.ubD, 0, none⟩)] w6 fun e w' => e = .returned (.slice a2 n2 c2) ∧ w' = w6) := fun w6 h => HLB.out w6 (hb5.trans (h.mono hb5.size))
    have k21 : w5.cell? ⟨w.heap.size + 5, 21, none⟩ = some (.pointer (some ⟨L3.db, 0, none⟩)) := by
      have h9 : w5.cell? ⟨L3.rg, 21, none⟩ = some (ptr F'.run L3.db) := HT5.out.f.rg.1.cell 21
      rw [HF3.out.2.2.2.1, HF3.out.2.2.1] at h9
      exact h9
    have HST := hid_of (status_any L3.db L3.bbD L3.ubD F'.DM w5 (HT5.out.f.dma HF3.out.2.2.2.1).1)
    clear HIP hb5
    go_wp2_with fail
    refine wpAnyJ_end _ _ _ _ (by kernel_rfl) ?_
    go_wp2_with fail
    refine HST.out.mono ?_
    rintro e w6 ⟨rfl, hw6⟩
    obtain rfl := hw6.symm
    clear hw6 HST k21
    by_cases h3 : F'.DM.st = 3
    · have q3 : (F'.DM.st == 3) = true := by simpa using h3
      clear h3
      go_wp2_with fail
      go_ret
      exact ⟨rfl, HT5.out.be⟩
    by_cases h5 : F'.DM.st = 5
    · have q3 : (F'.DM.st == 3) = false := by simpa using h3
      have q5 : (F'.DM.st == 5) = true := by simpa using h5
      clear h3 h5
      go_wp2_with fail
      go_ret
      exact ⟨rfl, HT5.out.be⟩
    have q3 : (F'.DM.st == 3) = false := by simpa using h3
    have q5 : (F'.DM.st == 5) = false := by simpa using h5
    have HEQ : Hid (F'.DM.st = R'.DM.st ∧ n1 = n2) := by
      rcases HY.out.2 with q | q
      · rcases q with q | q
        · exact absurd q h3
        · exact absurd q h5
      · exact ⟨q.1, HNQ.out q.2⟩
    clear h3 h5
    obtain ⟨st, hst⟩ : ∃ st, F'.DM.st = st := ⟨_, rfl⟩
    rw [hst] at q3 q5 ⊢
    obtain ⟨BF, BR, p3, p4, p5, hBF, hBR, k3, k4, k21, h13a, h13b, h23⟩ : ∃ (BF BR p3 p4 p5 : Nat), w.heap.size + 5 = BF ∧ w1'.heap.size + 5 = BR ∧ w5.cell? ⟨BF, 3, none⟩ = some (.pointer (some ⟨p3, 0, none⟩)) ∧ w5.cell? ⟨BR, 3, none⟩ = some (.pointer (some ⟨p4, 0, none⟩)) ∧ w5.cell? ⟨BR, 21, none⟩ = some (.pointer (some ⟨p5, 0, none⟩)) ∧
        (∀ q, Calls Try.prog 13 #[.pointer (some ⟨p3, 0, none⟩)] (w5.drewN q) fun e w' => e = .returned (.slice a1 n1 c1) ∧ ∃ q', w' = w5.drewN q') ∧
        (∀ q, Calls Try.prog 13 #[.pointer (some ⟨p4, 0, none⟩)] (w5.drewN q) fun e w' => e = .returned (.slice a2 n1 c2) ∧ ∃ q', w' = w5.drewN q') ∧
        (∀ q, Calls Try.prog 23 #[.pointer (some ⟨p5, 0, none⟩)] (w5.drewN q) fun e w' => e = .returned (.int .u8 st) ∧ ∃ q', w' = w5.drewN q') := by
      have hd : ∀ q : Nat, Below w5.heap.size w5 (w5.drewN q) := fun q => ⟨rfl, rfl, rfl, Nat.le_refl _, fun _ _ => rfl⟩
      refine ⟨_, _, L3.ubD, L4.ubD, L4.db, rfl, rfl, by rw [← HF3.out.2.2.1]; exact HT5.out.f.rg.1.cell 3, by rw [← HF4.out.2.1]; exact HT5.out.r.rg.1.cell 3, ?_, fun q => (HLA5.out _ (hd q)).mono fun e w' h => ⟨h.1, q, h.2⟩, fun q => ?_, fun q => ?_⟩
      · have h9 : w5.cell? ⟨L4.rg, 21, none⟩ = some (ptr R'.run L4.db) := HT5.out.r.rg.1.cell 21
        rw [HF4.out.2.2.1, HF4.out.2.1] at h9
        exact h9
      · rw [HEQ.out.2]
        exact (HLB5.out _ (hd q)).mono fun e w' h => ⟨h.1, q, h.2⟩
      · have := status_any L4.db L4.bbD L4.ubD R'.DM (w5.drewN q) ((HT5.out.r.below (hd q)).dma HF4.out.2.2.1).1
        rw [← HEQ.out.1, hst] at this
        exact this.mono fun e w' h => ⟨h.1, q, h.2⟩
    have H13a := hid_of h13a
    have H13b := hid_of h13b
    have H23 := hid_of h23
    have HBE : Hid (∀ q, Below w.heap.size w (w5.drewN q)) := fun q => below_drewN' HT5.out.be
    rw [hBF, hBR]
    clear h13a h13b h23 hBF hBR hst HEQ HY HNQ HPI HFX HOK HN HS HT5 HLA5 HLB5 HF3 HF4 HT HL1 HL2 HLA HLB HK34
    go_upto_region 12 with fail
    go_quiet (first | with_reducible exact H13a.out _ | with_reducible exact H13b.out _ | with_reducible exact H23.out _)
    go_wp2_with fail
    go_ret
    exact ⟨rfl, HBE.out _⟩
  · have HSM := hid_of (small_no a n c hn w)
    clear hs hn
    go_enter Try.func10, Try.ntmps10
    go_wp2_with fail
    refine HSM.out.mono ?_
    rintro e w0 ⟨rfl, hw0⟩
    obtain rfl := hw0.symm
    go_wp2_with fail
    go_ret
    exact ⟨rfl, Below.refl _ _⟩
end Go.Proofs.Qxb6500749a
