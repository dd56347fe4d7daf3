import Derived.Test.Qxb6500750aDoorOnTc
namespace Go.Proofs.Qxb6500750aDoor
open Go.RowKit
attribute [local go_sem] put_size put_cell_same put_cell_ne put_frozen_same put_frozen_ne put_setCell_same put_setCell_ne put_drew
attribute [local go_sem] drewN_setCell drewN_alloc drewN_put
attribute [local go_sem] ag_rg ag_av ag_gr ag_rt ag_tk ag_ba ag_cut ag_turn ag_pt ag_fm ag_f0 ag_f1 ag_f2 ag_f3 as_av as_gr as_rt as_tk as_ba as_cut as_turn as_pt as_fm
attribute [local go_sem] fg_0 fg_1 fg_3 fg_4 fg_5 fg_6 fs_6
attribute [local go_sem] as_f0t as_f1t as_f2t as_f3t upd_same upd_upd
set_option linter.unusedVariables false in
set_option maxRecDepth 1000000 in
set_option maxHeartbeats 16000000 in
theorem rnd46_3 (ab xb : Nat) (pbs : Nat → Nat) (ρ : RepD) (W : Nat → Nat → Bool) (pk : Int) (seen : Nat → Int) (acc : Nat → List Req) (p : Nat → PS) (J : Nat → BK → Prop) (B0 : BK) (w W0 : World) (hpk : 0 ≤ pk ∧ pk < 4294967296)
    (HJ : Hid (∀ t, t < 7 → ∀ B, J t B → RoundOK ρ p acc W pk seen t B ∧ ∀ nb, B.fl nb = none → J (t + 1) (roundT ρ p acc t nb B)))
    (HB1 : Hid (Blk W0 w.heap.size (encR ρ) 41)) (HB2 : Hid (Blk W0 (w.heap.size + 1) (encW W) 134)) (HB3 : Hid (Blk W0 (w.heap.size + 1 + 1) (seenC seen) 133)) (HBS : Hid (Base ab xb pbs W0 B0 acc p)) (HZ : Hid (W0.heap.size = w.heap.size + 3))
    (u : Nat → Value) (k : Nat) (B : BK) (wr : World) (hk : k ≤ 7) (hk7 : k < 7) (hJB : Hid (J k B ∧ Later ab xb pbs B0 acc p W0 B wr)) (KR : Act → World → Prop)
    (HKR : Hid (∀ (act : Act) (w' : World) (B' : BK), act = fr46 ab w.heap.size pk ρ W seen (fun i => act.tmps.getD i undef) (k + 1) → k < 7 → J (k + 1) B' → Later ab xb pbs B0 acc p W0 B' w' → KR act w')) (Q0 : Exit → Act → World → Prop) (body : Code) (hbody : body = (Tryd.f46.body.bind firstLoop).getD .skip)
    (S1 : Hid (ρ.rs k = false)) (S2 : Hid (ρ.rp k = true)) (S3 : Hid (¬ ρ.g k = -1)) :
    Code.wp Tryd.prog body (Exit.then KR Q0) (fr46 ab w.heap.size pk ρ W seen u k) wr := by
  subst hbody
  conv => arg 2; whnf
  unfold fr46
  obtain ⟨hj, hl⟩ := hJB.out
  obtain ⟨hok, hnext⟩ := HJ.out k hk7 B hj
  have HOK := hid_of hok
  have HNX := hid_of hnext
  have HLT := hid_of hl
  have hr1 := hl.blk HBS.out.bk HB1.out (by decide) (by decide)
  have hr2 := hl.blk HBS.out.bk HB2.out (by decide) (by decide)
  have hr3 := hl.blk HBS.out.bk HB3.out (by decide) (by decide)
  have hbk := hl.base.bk.blk
  obtain ⟨⟨o0, o1, o2, o3⟩, _, _, _, _, _⟩ := hok
  clear hJB hj hl hnext
  have n1 := hr1.ne_of_T hbk (by decide)
  have n2 := hr2.ne_of_T hbk (by decide)
  have n3 := hr3.ne_of_T hbk (by decide)
  have c25 := hr1.cell 25
  have c26 := hr1.cell 26
  have cg := hr1.cell k
  rw [rg_rs] at c25
  rw [rg_rp] at c26
  rw [rg_g _ _ hk7] at cg
  obtain ⟨rsb, hrs⟩ : ∃ b, ρ.rs k = b := ⟨_, rfl⟩
  obtain ⟨rpb, hrp⟩ : ∃ b, ρ.rp k = b := ⟨_, rfl⟩
  obtain ⟨gv, hgv⟩ : ∃ b, ρ.g k = b := ⟨_, rfl⟩
  have hbs : (bits BinOp.and IntKind.u8 (bitsV ρ.rs / 2 ^ k) 1 == 1) = rsb := by rw [bitsV_bit ρ.rs k hk7, hrs]; cases rsb <;> rfl
  have hbp : (bits BinOp.and IntKind.u8 (bitsV ρ.rp / 2 ^ k) 1 == 1) = rpb := by rw [bitsV_bit ρ.rp k hk7, hrp]; cases rpb <;> rfl
  rw [hgv] at cg
  have hgi : IntKind.i64.wrap gv = gv ∧ (gv = -1 ∨ (gv == -1) = false ∧ Hid (¬ gv = -1 ∧ 0 ≤ gv ∧ gv < 3)) := by
    rcases HOK.out.gr with h | ⟨g, _, _, _, h, hg3, _⟩
    · rw [hgv] at h; subst h; exact ⟨by decide, .inl rfl⟩
    · rw [hgv] at h; subst h; exact ⟨by simp [IntKind.wrap, IntKind.bits, IntKind.signed]; omega, .inr ⟨by simp, by omega, by omega, by omega⟩⟩
  obtain ⟨hgw, hgr⟩ := hgi
  have hlinks : Hid (k < 6 → ∃ (L : PL) (ad : Option Addr) (N cap : Nat), Blk wr L.pb (pcells L (p k)) 113 ∧ L.pb ≠ ab ∧ (wr.cell? ⟨B.a.rg, 1 + k, none⟩ = some (.pointer (some ⟨L.pb, 0, none⟩))) ∧ B.a.rg ≠ ab ∧ wr.cell? ⟨w.heap.size + 1 + 1, k, none⟩ = some (.int .i64 (seen k)) ∧ L.av = .slice ad N cap ∧ IntKind.i64.wrap ((N : Nat) - seen k) = due ρ k ∧ decide (due ρ k ≤ 1) = true ∧ (B.a.cut k = false ∨ B.a.cut k = true ∧ due ρ k = 0) ∧ ((k : Nat) : Int) < 6) := fun h6 => by
    obtain ⟨L, e1, e2, e3⟩ := HLT.out.base.link k h6
    obtain ⟨ad, cap, hv⟩ := e3.form'
    obtain ⟨q1, q2, q3, q4, q5⟩ := HOK.out.len h6
    refine ⟨L, ad, _, cap, e2, e2.ne_of_T hbk (by decide), ?_, HLT.out.base.rig.ne_of_T hbk (by decide), ?_, hv, ?_, by simpa using q2, ?_, by omega⟩
    · rw [HLT.out.base.rig.cell, gg_s _ _ _ h6, lk_lt _ _ h6, e1]
    · rw [hr3.cell, seen_get _ _ h6]
    · have q6 := due_nn ρ k; rw [← q1] at q6 q2 ⊢; simp [IntKind.wrap, IntKind.bits, IntKind.signed]; omega
    · cases hc : B.a.cut k
      · exact .inl rfl
      · exact .inr ⟨rfl, q3 hc⟩
  have h6n : Hid (¬ k < 6 → ¬ (((k : Nat) : Int) < 6)) := fun h => by omega
  obtain ⟨pv, hpv⟩ : ∃ v, B.a.pt k = v := ⟨_, rfl⟩
  have h6b : Hid (k < 6 → (((k : Nat) : Int) == 6) = false) := fun h => by simp; omega
  have HR1 := hid_of hr1
  have HR2 := hid_of hr2
  have HR3 := hid_of hr3
  have HRS := hid_of hrs
  have HPV := hid_of hpv
  have HRP := hid_of hrp
  have HGV := hid_of hgv
  have hl1 := hr1.lt
  obtain ⟨w1, rfl, hlw⟩ := hbk.out
  rw [put_cell_ne _ _ _ _ _ _ _ n1] at c25 c26 cg
  rw [put_size] at hl1
  clear hr1 hr2 hr3 hbk hrs hrp hgv
  have HJ1 : Hid (rsb = false → rpb = false → gv = -1 → J (k + 1) B) := fun e1 e2 e3 => by
    have := HNX.out _ (HLT.out.fresh (Nat.le_refl _))
    rw [roundT_quiet (HGV.out.trans e3), midT_no (HRS.out.trans e1) (HRP.out.trans e2)] at this
    exact this
  have hid0 : Hid (gv = -1 → wv (W k) = 0 ∨ (k < 6 ∧ (p k).busy = true)) := fun e => HOK.out.idle (HGV.out.trans e)
  obtain ⟨wvv, hwv⟩ : ∃ v, wv (W k) = v := ⟨_, rfl⟩
  have hr2c := HR2.out.cell k
  rw [wg_get _ _ hk7, hwv, put_cell_ne _ _ _ _ _ _ _ n2] at hr2c
  have HWV := hid_of hwv
  rw [hwv] at hid0
  clear hwv
  have hl2 : w.heap.size + 1 < w1.heap.size := by have := HR2.out.lt; rw [put_size] at this; exact this
  have hdue : Hid (due ρ k = (if rsb = true then 1 else 0) + (if gv = -1 then 0 else 1)) := by unfold due; rw [HRS.out, HGV.out]; exact rfl
  have hptk : Hid (rsb = true ∨ rpb = true → ∃ b f, pv = .pointer (some ⟨b, 0, none⟩) ∧ B.fl b = some f ∧ k < 6) := fun h => by
    rw [← HPV.out]
    rcases h with h | h
    · obtain ⟨q1, _, _, _, _, b, f, q2, q3, _⟩ := HOK.out.rs (by rw [HRS.out]; exact h)
      exact ⟨b, f, q2, q3, q1⟩
    · obtain ⟨q1, _, b, f, q2, q3, _⟩ := HOK.out.rp (by rw [HRP.out]; exact h)
      exact ⟨b, f, q2, q3, q1⟩
  have hnb : Hid (¬ (rsb = true ∧ rpb = true)) := fun h => by
    obtain ⟨_, q, _⟩ := HOK.out.rs (by rw [HRS.out]; exact h.1)
    rw [HRP.out, h.2] at q; cases q
  have hmeas : Hid (7 - (intOf (.int .i64 ((k : Nat) + 1))).toNat < 7 - (intOf (.int .i64 (k : Nat))).toNat) := by simp [intOf, Hid]; omega
  have Q1 : rsb = false := HRS.out.symm.trans S1.out
  have Q2 : rpb = true := HRP.out.symm.trans S2.out
  have Q3 : ¬ gv = -1 := fun e => S3.out (HGV.out.trans e)
  have q1 := Q2
  have q2 := Q3
  clear Q1 Q2 Q3
  obtain ⟨q4, hrsf, b, f, hpt, hf, ⟨m, hm3, hfm, hear⟩, hla0, hla1⟩ := HOK.out.rp (HRP.out.trans q1)
  have q0 : rsb = false := HRS.out.symm.trans hrsf
  have hdd : due ρ k = 1 := by rw [hdue.out, q0, if_neg q2]; rfl
  obtain ⟨L, ad, N, cap, HP, m1, hG, m2, hS, hv, hsub, hle, hcut, h6i⟩ := hlinks.out q4
  rw [hdd] at hsub hle hcut
  have HPh := hid_of HP
  have HAT := hid_of (attempts_any L (p k))
  have HBU := hid_of (busy_any L (p k))
  rw [put_cell_ne _ _ _ _ _ _ _ m2] at hG
  rw [put_cell_ne _ _ _ _ _ _ _ n3] at hS
  clear HP
  have h6e := h6b.out q4
  have HCUT := hid_of hcut
  have HEAR := hid_of hear
  have hpv2 : pv = .pointer (some ⟨b, 0, none⟩) := HPV.out.symm.trans hpt
  have hBF := HLT.out.base.bk.fl b f hf
  have nbA : b ≠ ab := hBF.ne_of_T HLT.out.base.bk.blk (by decide)
  have hBF1 : Blk w1 b (encF f) 156 := (put_heap_ne _ ab b _ _ nbA).symm.trans hBF
  have nb1 := HR1.out.ne_of_T hBF (by decide)
  have nb2 := HR2.out.ne_of_T hBF (by decide)
  have nb3 := HR3.out.ne_of_T hBF (by decide)
  have nbg : B.a.rg ≠ b := HLT.out.base.rig.ne_of_T hBF (by decide)
  have hl0 : (f.la != 0) = true := by simp; exact hla0
  have hl1' : (f.la != 1) = true := by simp; exact hla1
  have HREP : Hid (∀ bb, repB f = bb → ∀ n, Calls Tryd.prog 56 #[.pointer (some ⟨b, 0, none⟩)] ((put w1 ab (encA B.a) 82).drewN n) fun e w' => e = .returned (.bool bb) ∧ w' = (put w1 ab (encA B.a) 82).drewN n) := fun bb h n => h ▸ repeatable_any b f _ hBF
  have HF := hid_of hf
  have nLb : L.pb ≠ b := HPh.out.ne_of_T hBF (by decide)
  obtain ⟨w2, rfl, hl3⟩ := hBF1.out
  have HPg : Hid (Blk (put (put w2 b (encF { m := (m : Nat), w := f.w, t := f.t, n := f.n, ac := f.ac, la := f.la, rep := true }) 156) ab (encA B.a) 82) L.pb (pcells L (p k)) 113) := by
    have h := HPh.out
    unfold Blk at h ⊢
    rw [put_heap_ne _ _ _ _ _ m1, put_heap_ne _ _ _ _ _ nLb] at h ⊢
    exact h
  have HGIV : Hid (∀ n, Later ab xb pbs B0 acc p W0 (setFl B b { f with rep := true }) ((put (put w2 b (encF { m := (m : Nat), w := f.w, t := f.t, n := f.n, ac := f.ac, la := f.la, rep := true }) 156) ab (encA B.a) 82).drewN n)) := fun n => by rw [← hfm]; exact HLT.out.given HF.out nbA n
  rw [put_cell_ne _ _ _ _ _ _ _ nb1] at c25 c26 cg
  rw [put_cell_ne _ _ _ _ _ _ _ nb2] at hr2c
  rw [put_cell_ne _ _ _ _ _ _ _ nb3] at hS
  rw [put_cell_ne _ _ _ _ _ _ _ nbg] at hG
  rw [put_size] at hl1 hl2 hlw
  have HDD := hid_of hdd
  have hfm' : f.m = (m : Nat) := hfm
  have hc : B.a.cut k = false := by rcases hcut with h | h; exact h; exact absurd h.2 (by decide)
  have hpb := pick_bits pk hpk.1 hpk.2 k
  obtain ⟨sh, hsh⟩ : ∃ sh, 2 * k = sh := ⟨_, rfl⟩
  rw [hsh] at hpb
  have hs12 : sh ≤ 12 := by omega
  have hshw : IntKind.i64.wrap (2 * (k : Int)) = (sh : Int) := by
    have e : 2 * (k : Int) = (sh : Int) := by omega
    rw [e]; simp [IntKind.wrap, IntKind.bits, IntKind.signed]; omega
  clear hsh
  have hGC : Hid (∀ n, Calls Tryd.prog 58 #[.pointer (some ⟨ab, 0, none⟩), .int .i64 (k : Nat), .int .i64 gv, .int .u32 (pickAt pk k : Nat), .int .u8 (wvv : Nat)] ((put (put w2 b (encF { m := (m : Nat), w := f.w, t := f.t, n := f.n, ac := f.ac, la := f.la, rep := true }) 156) ab (encA B.a) 82).drewN n) fun e w' => e = .returned (.tuple #[]) ∧ ∃ nb, ((put (put w2 b (encF { m := (m : Nat), w := f.w, t := f.t, n := f.n, ac := f.ac, la := f.la, rep := true }) 156) ab (encA B.a) 82).drewN n).heap.size ≤ nb ∧ Later ab xb pbs B0 acc p W0 (grT ρ p acc k nb (setFl B b { f with rep := true })) w') := fun n => grant_calls HOK.out (HGIV.out n) rfl rfl hk7 HGV.out HWV.out q2
  have hJn : Hid (∀ nb n, ((put (put w2 b (encF { m := (m : Nat), w := f.w, t := f.t, n := f.n, ac := f.ac, la := f.la, rep := true }) 156) ab (encA B.a) 82).drewN n).heap.size ≤ nb → J (k + 1) (grT ρ p acc k nb (setFl B b { f with rep := true }))) := fun nb n h => by
    replace h : (put (put w2 b (encF { m := (m : Nat), w := f.w, t := f.t, n := f.n, ac := f.ac, la := f.la, rep := true }) 156) ab (encA B.a) 82).heap.size ≤ nb := h
    have := HNX.out nb (HLT.out.fresh (by rw [put_size, put_size] at h ⊢; exact h))
    unfold roundT at this
    rw [midT_rp (HRS.out.trans q0) (HRP.out.trans q1) hpt hf] at this
    exact this
  have hgn : (gv == -1) = false := by rcases hgr with h | h; exact (q2 h).elim; exact h.1
  have Q3 := hid_of q2
  clear hgr q2 hdd hcut hear hpt hf hBF hBF1 hfm hrsf
  subst q0; subst q1; subst hpv2
  go_wp2_with fail
  go_quiet (fail)
  go_wp2_with fail
  go_quiet ((go_at_call 16; refine (HAT.out _ (by exact HPh.out)).mono ?_; rintro e w5 ⟨rfl, rfl⟩; exact ⟨rfl, _, rfl⟩))
  rcases hrb : repB f
  · have HR56 := hid_of (HREP.out _ hrb)
    clear hrb
    go_wp2_with fail
    go_quiet ((go_at_call 56; refine (HR56.out _).mono ?_; rintro e w5 ⟨rfl, rfl⟩; exact ⟨rfl, _, rfl⟩))
    go_wp2_with fail
    refine wp_region_qtail 11 mixed (by kernel_rfl) ?_
    simp only [List.take_succ_cons, List.take_zero, List.drop_succ_cons, List.drop_zero]
    repeat (go_big_quiet_step (fail))
    refine wpQuiet_nil ?_
    go_wp2_with fail
    refine (hGC.out _).mono ?_
    rintro e w5 ⟨rfl, nb, hnb5, hL5⟩
    have HNB5 := hid_of hnb5
    have HL5 := hid_of hL5
    clear hnb5 hL5
    go_wp2_with fail
    exact HKR.out _ _ _ (by kernel_rfl) hk7 (hJn.out nb _ HNB5.out) (HL5.out)
  · have HR56 := hid_of (HREP.out _ hrb)
    by_cases hn3 : f.n ≤ 3
    · have hn3' : decide (f.n ≤ 3) = true := decide_eq_true hn3
      have hbm : B.a.ba m = true := HEAR.out hrb hn3 hc
      clear hrb hn3
      go_wp2_with fail
      go_quiet ((go_at_call 56; refine (HR56.out _).mono ?_; rintro e w5 ⟨rfl, rfl⟩; exact ⟨rfl, _, rfl⟩))
      go_wp2_with fail
      refine wp_region_qtail 11 mixed (by kernel_rfl) ?_
      simp only [List.take_succ_cons, List.take_zero, List.drop_succ_cons, List.drop_zero]
      repeat (go_big_quiet_step (fail))
      refine wpQuiet_nil ?_
      go_wp2_with fail
      refine (hGC.out _).mono ?_
      rintro e w5 ⟨rfl, nb, hnb5, hL5⟩
      have HNB5 := hid_of hnb5
      have HL5 := hid_of hL5
      clear hnb5 hL5
      go_wp2_with fail
      exact HKR.out _ _ _ (by kernel_rfl) hk7 (hJn.out nb _ HNB5.out) (HL5.out)
    · have hn3' : decide (f.n ≤ 3) = false := decide_eq_false hn3
      clear hrb hn3
      go_wp2_with fail
      go_quiet ((go_at_call 56; refine (HR56.out _).mono ?_; rintro e w5 ⟨rfl, rfl⟩; exact ⟨rfl, _, rfl⟩))
      go_wp2_with fail
      refine wp_region_qtail 11 mixed (by kernel_rfl) ?_
      simp only [List.take_succ_cons, List.take_zero, List.drop_succ_cons, List.drop_zero]
      repeat (go_big_quiet_step (fail))
      refine wpQuiet_nil ?_
      go_wp2_with fail
      refine (hGC.out _).mono ?_
      rintro e w5 ⟨rfl, nb, hnb5, hL5⟩
      have HNB5 := hid_of hnb5
      have HL5 := hid_of hL5
      clear hnb5 hL5
      go_wp2_with fail
      exact HKR.out _ _ _ (by kernel_rfl) hk7 (hJn.out nb _ HNB5.out) (HL5.out)
end Go.Proofs.Qxb6500750aDoor
