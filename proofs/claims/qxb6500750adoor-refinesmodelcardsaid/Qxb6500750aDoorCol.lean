import Derived.Test.Qxb6500750aDoorXrep
import Derived.Deep.DeepCutAuto
import Derived.Deep.CutBlock
import Derived.BigQuiet
namespace Go.Proofs.Qxb6500750aDoor
open Go.RowKit
attribute [local go_sem] put_size put_cell_same put_cell_ne put_frozen_same put_frozen_ne put_setCell_same put_setCell_ne put_drew
attribute [local go_sem] drewN_setCell drewN_alloc drewN_put
attribute [local go_sem] xg_s0 xg_s1 xg_s2 xg_s3 xg_s4 xg_s5 xg_s6 xg_s7 xg_s8 xg_s9 xg_m0 xg_m1 xg_m2 xg_m3 xg_m4 xg_t0 xg_t1 xg_t2 xg_t3 xg_t4 xg_t5 xg_t6
attribute [local go_sem] mod4_lt mod4_nn mod4_lt'
attribute [local go_sem] xs_s0 xs_s1 xs_s2 xs_s3 xs_s4 xs_s5 xs_s6 xs_s7 xs_s8 xs_s9 xs_m0 xs_m1 xs_m2 xs_m3 xs_m4 xs_t1 xs_t2 xs_t3 xs_t4 xs_t5 xs_t6 xs_sg xs_sr xs_sp rg_rs rg_rp rs_rs rs_rp

attribute [local go_sem] bits_or_u8 setT_setT setT_tp setT_mp setS_tp setS_sl setS_iso setS_setS setP_mp setP_tp setS_sr setS_sp
set_option maxRecDepth 100000 in
set_option maxHeartbeats 4000000 in
theorem collect_any (own : Nat → Nat) (xb rb : Nat) (pbs : Nat → Nat) (σ : SS) (ρ : RepD) (w : World) (h : XRep own w xb pbs σ) (hr : Blk w rb (encR ρ) 41) (hor : own rb = 49)
    (hok : ∀ k, k < 7 → ColOK k (collectN k (σ, ρ)).1) :
    Calls Tryd.prog 48 #[.pointer (some ⟨xb, 0, none⟩), .pointer (some ⟨rb, 0, none⟩)] w fun e w' => e = .returned (.tuple #[]) ∧ ∃ own', XRep own' w' xb pbs (collectN 7 (σ, ρ)).1 ∧ Blk w' rb (encR (collectN 7 (σ, ρ)).2) 41 ∧ Ext own own' (fun k => k ≤ 6 ∨ k = 49) w w' := by
  go_enter Tryd.func48, Tryd.ntmps48
  go_wp2_with fail
  go_loopw [9] (fun i w' => ∃ (k : Nat), k ≤ 7 ∧ i = .int .i64 k ∧ ∃ own', XRep own' w' xb pbs (collectN k (σ, ρ)).1 ∧ Blk w' rb (encR (collectN k (σ, ρ)).2) 41 ∧ Ext own own' (fun k => k ≤ 6 ∨ k = 49) w w') (fun i _ => 7 - (intOf i).toNat)
  case atStart => exact ⟨0, by omega, rfl, own, h, hr, Ext.refl _ _ _⟩
  case round =>
    obtain ⟨k, hk, rfl, own1, h1, hr1, hx1⟩ := hrel
    by_cases hk7 : k < 7
    · have hok1 := hok k hk7
      obtain ⟨c, hc⟩ : ∃ c, collectN k (σ, ρ) = c := ⟨_, rfl⟩
      rw [hc] at h1 hr1 hok1
      have hnext : Hid (collectN (k + 1) (σ, ρ) = collectT k c) := by unfold Hid; rw [← hc]; rfl
      have hor1 : own1 rb = 49 := (hx1.keep rb hr.lt).trans hor
      have hne : rb ≠ xb := fun e => by rw [e, h1.oxb] at hor1; omega
      have HX1 := hid_of hx1
      clear hx1 hc hok
      have H1 := hid_of h1
      have Hr1 := hid_of hr1
      have HOK := hid_of hok1
      obtain ⟨km0, km1⟩ := hok1.m
      have ksq := hok1.sq
      clear hok1
      obtain ⟨w0, rfl, hl0⟩ := h1.blk.out
      clear h1
      cases hbz : (c.1.x.tp k).busy
      · go_wp2_with fail
        go_roundw
        case rel =>
          refine ⟨k + 1, by omega, by go_num, own1, ?_, ?_, HX1.out⟩
          · rw [hnext.out]; unfold collectT; rw [if_pos hbz]; exact H1.out
          · rw [hnext.out]; unfold collectT; rw [if_pos hbz]; exact Hr1.out
        case measure => simp [intOf]; omega
      · go_wp2_with fail
        refine (poll_x own1 xb k pbs c.1 hk7 _ H1.out).mono ?_
        rintro e w2 ⟨rfl, own2, h2, hx2⟩
        have hr2 : Blk w2 rb (encR c.2) 41 := Hr1.out.ext hx2 (by rw [hor1]; omega)
        have hor2 : own2 rb = 49 := (hx2.keep rb Hr1.out.lt).trans hor1
        have H2 := hid_of h2
        have HX2 := hid_of (HX1.out.trans (hx2.mono (S' := fun k => k ≤ 6 ∨ k = 49) (fun _ h => .inl h)))
        have hb2 := h2.blk
        rw [ticked_x] at hb2
        obtain ⟨w3, rfl, hl3⟩ := hb2.out
        have hr3 : Blk w3 rb (encR c.2) 41 := (put_heap_ne w3 xb rb _ _ hne).symm.trans hr2
        obtain ⟨w4, rfl, hl4⟩ := hr3.out
        clear hb2 hx2 h2 hr3 hr2 hl3 H1 HX1 Hr1 hr h
        have hlx : xb < w4.heap.size := by have := H2.out.blk.lt; simpa [put_size] using this
        have hne2 : xb ≠ rb := Ne.symm hne
        cases hpk : pollK c.1 k
        · obtain ⟨n1, n2, n3⟩ := pollV_no _ _ hpk
          have HN := hid_of (And.intro n1 n2)
          rw [n3]
          clear n1 n2 n3
          go_wp2_with fail
          go_roundw
          case rel =>
            have e : collectT k c = (ticked c.1 k, c.2) := by unfold collectT; rw [hbz, if_neg (by decide), if_pos HN.out]
            refine ⟨k + 1, by omega, by go_num, own2, ?_, ?_, HX2.out.trans (Ext.alloc' _ _ _ _)⟩
            · rw [hnext.out, e]; exact H2.out.ext (Ext.alloc' _ (fun _ => False) _ _) (fun _ _ h => h)
            · rw [hnext.out, e]; exact ((Blk.put_same hl4).put_ne hne).alloc _
          case measure => simp [intOf]; omega
        · have hyes := hid_of (pollK_yes _ _ hpk)
          rw [pollV_yes _ _ hpk]
          obtain ⟨es, hes⟩ : ∃ v, pS k (c.1.p k) = v := ⟨_, rfl⟩
          obtain ⟨ed, hed⟩ : ∃ v, pD k (c.1.p k) = v := ⟨_, rfl⟩
          obtain ⟨ec, hec⟩ : ∃ v, pC k (c.1.p k) = v := ⟨_, rfl⟩
          rw [hes, hed, hec]
          have Hes := hid_of (And.intro hes (And.intro hed hec))
          clear hes hed hec
          cases hob : (c.1.x.tp k).orph
          · go_wp2_with fail
            go_quiet ((go_at_call 51; refine Calls.quiet_of_same (slot_any xb _ _ ksq _)))
            go_upto_region 10 with fail
            go_cut [87] (fun s wc => ∃ n, s = .bool (again c.1.x k ec) ∧ wc = ((put (put w4 rb (encR c.2) 41) xb (encX (lk pbs) c.1.x) 132).alloc (.cells #[.int .u8 es, .int .u32 ed, .int .u8 ec] 161)).drewN n)
            case first =>
              have hkm : (c.1.x.tp k).m.toNat < 3 := by omega
              cases hA : mayRep ((c.1.x.mp (c.1.x.tp k).m.toNat).sl ((c.1.x.tp k).sq % 4).toNat).req.w ec
              · have HG := hid_of (show again c.1.x k ec = false by simp only [again, slotOf, hA, Bool.false_and])
                have hmr := mayRepeat_any ((c.1.x.mp (c.1.x.tp k).m.toNat).sl ((c.1.x.tp k).sq % 4).toNat).req.w ec
                rw [hA] at hmr
                go_quiet ((go_at_call 62; refine (hmr _).mono ?_; rintro e w' ⟨rfl, rfl⟩; exact ⟨rfl, _, rfl⟩))
                go_wp2_with fail
                go_meet
                case rel => exact ⟨_, by rw [HG.out], (by first | rfl | exact World.drewN_drewN ..)⟩
              · have hmr := mayRepeat_any ((c.1.x.mp (c.1.x.tp k).m.toNat).sl ((c.1.x.tp k).sq % 4).toNat).req.w ec
                rw [hA] at hmr
                by_cases hre : ((c.1.x.mp (c.1.x.tp k).m.toNat).sl ((c.1.x.tp k).sq % 4).toNat).ret.re < 3
                · cases hi : (c.1.x.tp k).iso
                  · have HG := hid_of (show again c.1.x k ec = !(c.1.x.mp (c.1.x.tp k).m.toNat).iso by simp only [again, slotOf, hA, hre, hi, decide_true, Bool.true_and, Bool.not_false])
                    go_quiet ((go_at_call 62; refine (hmr _).mono ?_; rintro e w' ⟨rfl, rfl⟩; exact ⟨rfl, _, rfl⟩))
                    go_wp2_with fail
                    go_meet
                    case rel => exact ⟨_, by rw [HG.out], (by first | rfl | exact World.drewN_drewN ..)⟩
                  · have HG := hid_of (show again c.1.x k ec = false by simp only [again, slotOf, hA, hre, hi, decide_true, Bool.true_and, Bool.not_true, Bool.false_and])
                    go_quiet ((go_at_call 62; refine (hmr _).mono ?_; rintro e w' ⟨rfl, rfl⟩; exact ⟨rfl, _, rfl⟩))
                    go_wp2_with fail
                    go_meet
                    case rel => exact ⟨_, by rw [HG.out], (by first | rfl | exact World.drewN_drewN ..)⟩
                · have HG := hid_of (show again c.1.x k ec = false by simp only [again, slotOf, hA, hre, decide_false, Bool.true_and, Bool.false_and])
                  have hre' : decide (((c.1.x.mp (c.1.x.tp k).m.toNat).sl ((c.1.x.tp k).sq % 4).toNat).ret.re < 3) = false := by simp [hre]
                  go_quiet ((go_at_call 62; refine (hmr _).mono ?_; rintro e w' ⟨rfl, rfl⟩; exact ⟨rfl, _, rfl⟩))
                  go_wp2_with fail
                  go_meet
                  case rel => exact ⟨_, by rw [HG.out], (by first | rfl | exact World.drewN_drewN ..)⟩
            case rest =>
              obtain ⟨n1, rfl, rfl⟩ := hcut
              cases hag : again c.1.x k ec
              · have hag' := hid_of hag
                have hkm : (c.1.x.tp k).m.toNat < 3 := by omega
                clear hag
                go_upto_if 118 with fail
                go_cut [] (fun wc => ∃ (x1 : XS) (ρ1 : RepD) (n : Nat), wc = ((put (put w4 rb (encR ρ1) 41) xb (encX (lk pbs) x1) 132).alloc (.cells #[.int .u8 es, .int .u32 ed, .int .u8 ec] 161)).drewN n ∧ x1.mp = c.1.x.mp ∧ x1.tp = c.1.x.tp ∧ Hid (x1 = if es = 3 then c.1.x.setP k (sat (c.1.x.sp k)) else c.1.x) ∧ Hid (ρ1 = if es = 3 then { c.2 with rp := upd c.2.rp k true } else c.2))
                case first =>
                  cases hs3 : es == 3
                  · have hs3' : es ≠ 3 := by simpa using hs3
                    go_wp2_with fail
                    go_meet
                    case rel => exact ⟨c.1.x, c.2, n1, rfl, rfl, rfl, by unfold Hid; rw [if_neg hs3'], by unfold Hid; rw [if_neg hs3']⟩
                  · have hs3' : es = 3 := by simpa using hs3
                    have Hs3 := hid_of hs3'
                    clear hs3'
                    go_wp2_with fail
                    refine wp_region_float [0, 1, 2, 3, 4, 5, 6, 7, 8] [9] [0, 1, 2, 4, 5, 6, 7, 8] mixed (fun ω => ω = ((put (put w4 rb (encR c.2) 41) xb (encX (lk pbs) c.1.x) 132).alloc (.cells #[.int .u8 es, .int .u32 ed, .int .u8 ec] 161)).drewN (n1 + 1)) (by kernel_rfl) rfl (by kernel_rfl) rfl ?_
                    iterate 9 refine wpFl_op _ _ _ _ rfl rfl (fun ω hj => by first | (obtain rfl := hj rfl; go_simp; rfl) | (go_simp; rfl)) ?_
                    refine wpFl_nil _ _ ?_
                    simp only [Act.put, List.setIfInBounds_toArray]
                    refine wpCh_rest _ _ _ _ [_] _ _ rfl (by kernel_rfl) ?_
                    simp only [List.getElem_toArray, List.getElem_cons_succ, List.getElem_cons_zero]
                    go_wp2_with fail
                    refine (bump_blk xb (198 + k) (encX (lk pbs) c.1.x) 132 (c.1.x.sp k) HOK.out.sp _ ?hbk (xg_sp (lk pbs) c.1.x k hk7)).mono ?_
                    case hbk =>
                      have hbk : xb < (put w4 rb (encR { c.2 with rp := upd c.2.rp k true }) 41).heap.size := by rw [put_size]; exact hlx
                      exact (Blk.put_same hbk).alloc _
                    rintro e w8 ⟨rfl, hw8⟩
                    rw [drewN_put, put_alloc _ _ _ _ _ (by rw [put_size, put_size]; exact hlx), put_put, xs_sp _ _ _ hk7] at hw8
                    subst hw8
                    go_wp2_with fail
                    go_meet
                    case rel => exact ⟨_, _, _, rfl, rfl, rfl, by unfold Hid; rw [if_pos Hs3.out], by unfold Hid; rw [if_pos Hs3.out]⟩
                case rest =>
                  obtain ⟨x1, ρ1, n2, rfl, hx1m, hx1t, Hx1, Hρ1⟩ := hcut
                  have hne3 : w4.heap.size ≠ xb := by omega
                  have hwl : w4.heap.size < w4.heap.size + 1 := by omega
                  have hJn : Hid (∀ (X : Array Value) (n : Nat), Blk (((put (put w4 rb (encR ρ1) 41) xb X 132).alloc (.cells #[.int .u8 es, .int .u32 ed, .int .u8 ec] 161)).drewN n) w4.heap.size #[.int .u8 es, .int .u32 ed, .int .u8 ec] 161) := fun X n => by
                    have := Blk.new (put (put w4 rb (encR ρ1) 41) xb X 132) #[.int .u8 es, .int .u32 ed, .int .u8 ec] 161
                    rw [put_size, put_size] at this
                    exact this
                  go_upto_region 18 with fail
                  refine wp_region_float [0, 1, 2, 3, 4, 5, 6, 7, 8, 9, 10, 11] [12, 13, 14, 15, 16, 17, 18, 19, 20] [0, 1, 2, 3, 5, 7, 9, 10, 11] mixed (fun ω => Blk ω w4.heap.size #[.int .u8 es, .int .u32 ed, .int .u8 ec] 161) (by kernel_rfl) rfl (by kernel_rfl) ?hJ ?_
                  case hJ => exact hJn.out _ (n2 + 1)
                  iterate 12 refine wpFl_op _ _ _ _ rfl rfl (fun ω hj => by first | (obtain ⟨ω0, rfl, hl0⟩ := (hj rfl).out; go_simp; rfl) | (go_simp; rfl)) ?_
                  refine wpFl_nil _ _ ?_
                  simp only [Act.put, List.setIfInBounds_toArray]
                  refine wpCh_one _ _ _ _ rfl ?_
                  simp only [List.getElem_toArray, List.getElem_cons_succ, List.getElem_cons_zero]
                  go_wp2_with fail
                  refine ⟨hJn.out _ (n2 + 1), ?_⟩
                  refine wpCh_one _ _ _ _ rfl ?_
                  simp only [List.getElem_toArray, List.getElem_cons_succ, List.getElem_cons_zero]
                  go_wp2_with fail
                  refine ⟨hJn.out _ (n2 + 1), ?_⟩
                  refine wpCh_one _ _ _ _ rfl ?_
                  simp only [List.getElem_toArray, List.getElem_cons_succ, List.getElem_cons_zero]
                  go_wp2_with fail
                  refine ⟨hJn.out _ (n2 + 1), ?_⟩
                  refine wpCh_one _ _ _ _ rfl ?_
                  simp only [List.getElem_toArray, List.getElem_cons_succ, List.getElem_cons_zero]
                  go_wp2_with fail
                  refine ⟨hJn.out _ (n2 + 1), ?_⟩
                  refine wpCh_one _ _ _ _ rfl ?_
                  simp only [List.getElem_toArray, List.getElem_cons_succ, List.getElem_cons_zero]
                  go_wp2_with fail
                  refine ⟨hJn.out _ (n2 + 1), ?_⟩
                  refine wpCh_rest _ _ _ _ [_, _, _, _] _ _ rfl (by kernel_rfl) ?_
                  simp only [List.getElem_toArray, List.getElem_cons_succ, List.getElem_cons_zero]
                  obtain ⟨b1, b2⟩ := H2.out.both hor2 (by omega) hne (encR ρ1) ((setSlot x1 k (landS (slotOf c.1.x k) es ed ec)).setT k { c.1.x.tp k with busy := false, orph := false })
                  have B1 := hid_of b1
                  have B2 := hid_of (HX2.out.trans b2)
                  clear b1 b2
                  go_wp2_with fail
                  go_roundw
                  case rel =>
                    have e : collectT k c = ({ ticked c.1 k with x := (setSlot x1 k (landS (slotOf c.1.x k) es ed ec)).setT k { c.1.x.tp k with busy := false, orph := false } }, ρ1) := by
                      unfold collectT
                      rw [hbz, if_neg (by decide), if_neg hyes.out, hob, if_neg (by decide), Hes.out.2.2, hag'.out, if_neg (by decide), Hes.out.1, Hes.out.2.1, Hx1.out, Hρ1.out]
                      have ht : ({ c.1.x.tp k with busy := false } : TP) = { c.1.x.tp k with busy := false, orph := false } := by
                        show TP.mk false _ _ _ (c.1.x.tp k).orph _ = TP.mk false _ _ _ false _
                        rw [hob]
                      rw [ht]
                    refine ⟨k + 1, by omega, by go_num, own2, ?_, ?_, ?_⟩
                    · rw [hnext.out, e]
                      have := (B1.out.ext (Ext.alloc' _ (fun _ => False) _ (.cells #[.int .u8 es, .int .u32 ed, .int .u8 ec] 161)) (fun _ _ h => h)).ext (Ext.drewN (Ext.refl _ (fun _ => False) _) (n2 + 1)) (fun _ _ h => h)
                      unfold setSlot at this ⊢
                      rw [hx1t] at this ⊢
                      exact this
                    · rw [hnext.out, e]; exact ((Blk.put_same hl4).put_ne hne).alloc _
                    · have := (B2.out.trans (Ext.alloc' _ (fun k => k ≤ 6 ∨ k = 49) _ (.cells #[.int .u8 es, .int .u32 ed, .int .u8 ec] 161))).drewN (n2 + 1)
                      unfold setSlot at this
                      rw [hx1t] at this
                      exact this
                  case measure => simp [intOf]; omega
              · have hag' := hid_of hag
                have hk6 : k < 6 := by
                  by_cases h6 : k < 6
                  · exact h6
                  · exfalso
                    have hec : ec = 0 := by rw [← Hes.out.2.2]; unfold pC; rw [if_neg h6]
                    rw [hec] at hag
                    simp [again, mayRep] at hag
                have hre : ((c.1.x.mp (c.1.x.tp k).m.toNat).sl ((c.1.x.tp k).sq % 4).toNat).ret.re < 3 := by
                  simp only [again, slotOf, Bool.and_eq_true] at hag
                  exact of_decide_eq_true hag.1.1.2
                have hre0 : 0 ≤ ((c.1.x.mp (c.1.x.tp k).m.toNat).sl ((c.1.x.tp k).sq % 4).toNat).ret.re := HOK.out.re
                have hadd : (((c.1.x.mp (c.1.x.tp k).m.toNat).sl ((c.1.x.tp k).sq % 4).toNat).ret.re + 1) % 256 = ((c.1.x.mp (c.1.x.tp k).m.toNat).sl ((c.1.x.tp k).sq % 4).toNat).ret.re + 1 := by omega
                have hkm : (c.1.x.tp k).m.toNat < 3 := by omega
                clear hag hre hre0
                go_wp2_with fail
                refine (send_x own2 xb k pbs { ticked c.1 k with x := retried c.1.x k } hk7 ⟨km0, km1⟩ ksq ?_ ?_ ?_ ?_ _ (((H2.out.turn' (retried c.1.x k)).ext (Ext.alloc' _ (fun _ => False) _ _) (fun _ _ h => h)).ext (Ext.drewN (Ext.refl _ (fun _ => False) _) n1) (fun _ _ h => h))).mono ?_
                · intro _; show ((ticked c.1 k).p k).busy = false; unfold ticked; rw [if_pos hk6]; simp only [upd, if_true]
                  have hte : tickEnds (c.1.p k) = true := by simpa [pollK, hk6] using hpk
                  exact tickP_idle _ hte
                · intro _; show ∀ p ∈ ((ticked c.1 k).p k).plans, _; rw [ticked_plans]; exact HOK.out.pl hk6
                · intro _; show ((ticked c.1 k).p k).plans.length ≤ 8; rw [ticked_plans]; exact HOK.out.n hk6
                · intro _; show ((ticked c.1 k).p k).atts.length < _; rw [ticked_atts]; exact HOK.out.a hk6
                rintro e w5 ⟨rfl, own3, h3, hx3⟩
                have hxx : Ext own2 own2 (fun k => k ≤ 6 ∨ k = 49) (put (put w4 rb (encR c.2) 41) xb (encX (lk pbs) c.1.x) 132) (((put (put w4 rb (encR c.2) 41) xb (encX (lk pbs) (retried c.1.x k)) 132).alloc (.cells #[.int .u8 es, .int .u32 ed, .int .u8 ec] 161)).drewN n1) :=
                  Ext.drewN ((ext_put' (.inl (by rw [H2.out.oxb]; omega))).trans (Ext.alloc' _ _ _ _)) n1
                have HX3 := hid_of (HX2.out.trans (hxx.trans (hx3.mono (S' := fun k => k ≤ 6 ∨ k = 49) (fun _ h => .inl h))))
                have hr5 : Blk w5 rb (encR c.2) 41 := Blk.ext (w := ((put (put w4 rb (encR c.2) 41) xb (encX (lk pbs) (retried c.1.x k)) 132).alloc (.cells #[.int .u8 es, .int .u32 ed, .int .u8 ec] 161)).drewN n1) (((Blk.put_same hl4).put_ne hne).alloc _) hx3 (by rw [hor2]; omega)
                have hor3 : own3 rb = 49 := (hx3.keep rb (by simp [put_size]; omega)).trans hor2
                have H3 := hid_of h3
                have hb3 := h3.blk
                rw [sent_x] at hb3
                obtain ⟨w6, rfl, hl6⟩ := hb3.out
                have hr6 : Blk w6 rb (encR c.2) 41 := (put_heap_ne w6 xb rb _ _ hne).symm.trans hr5
                obtain ⟨w7, rfl, hl7⟩ := hr6.out
                have hlx7 : xb < w7.heap.size := by simpa [put_size] using hl6
                clear hb3 hx3 h3 hr5 hr6 hl6 hxx HX2
                go_wp2_with fail
                refine wp_region_float [0, 1, 2, 3, 4, 5, 6, 7, 8] [9] [0, 1, 2, 4, 5, 6, 7, 8] mixed (fun ω => ω = (put (put w7 rb (encR c.2) 41) xb (encX (lk pbs) (retried c.1.x k)) 132).drew) (by kernel_rfl) rfl (by kernel_rfl) rfl ?_
                iterate 9 refine wpFl_op _ _ _ _ rfl rfl (fun ω hj => by first | (obtain rfl := hj rfl; go_simp; rfl) | (go_simp; rfl)) ?_
                refine wpFl_nil _ _ ?_
                simp only [Act.put, List.setIfInBounds_toArray]
                refine wpCh_rest _ _ _ _ [_] _ _ rfl (by kernel_rfl) ?_
                simp only [List.getElem_toArray, List.getElem_cons_succ, List.getElem_cons_zero]
                go_wp2_with fail
                refine (bump_blk xb (191 + k) _ 132 (c.1.x.sr k) HOK.out.sr _ (Blk.drew (Blk.put_same (by rw [put_size]; exact hlx7))) (xg_sr (lk pbs) (retried c.1.x k) k hk7)).mono ?_
                rintro e w8 ⟨rfl, hw8⟩
                rw [put_drew, put_put, xs_sr _ _ _ hk7] at hw8
                subst hw8
                obtain ⟨b1, b2⟩ := H3.out.both hor3 (by omega) hne (encR { c.2 with rs := upd c.2.rs k true }) ((retried c.1.x k).setR k (sat (c.1.x.sr k)))
                have B1 := hid_of b1
                have B2 := hid_of (HX3.out.trans b2)
                clear b1 b2
                go_wp2_with fail
                go_roundw
                case rel =>
                  have e : collectT k c = ({ sent { ticked c.1 k with x := retried c.1.x k } k with x := (retried c.1.x k).setR k (sat (c.1.x.sr k)) }, { c.2 with rs := upd c.2.rs k true }) := by unfold collectT; rw [hbz, if_neg (by decide), if_neg hyes.out, hob, if_neg (by decide), Hes.out.2.2, if_pos hag'.out]
                  refine ⟨k + 1, by omega, by go_num, own3, ?_, ?_, B2.out.drew⟩
                  · rw [hnext.out, e]; exact B1.out.ext (Ext.drew (Ext.refl _ (fun _ => False) _)) (fun _ _ h => h)
                  · rw [hnext.out, e]; exact ((Blk.put_same hl7).put_ne hne).drew
                case measure => simp [intOf]; omega
          · go_wp2_with fail
            go_roundw
            case rel =>
              have e : collectT k c = ({ ticked c.1 k with x := c.1.x.setT k { c.1.x.tp k with busy := false, orph := false } }, c.2) := by unfold collectT; rw [hbz, if_neg (by decide), if_neg hyes.out, if_pos hob]
              refine ⟨k + 1, by omega, by go_num, own2, ?_, ?_, ?_⟩
              · rw [hnext.out, e]; exact (H2.out.turn' _).ext (Ext.alloc' _ (fun _ => False) _ _) (fun _ _ h => h)
              · rw [hnext.out, e]; exact ((Blk.put_same hl4).put_ne hne).alloc _
              · exact HX2.out.trans ((ext_put' (.inl (by rw [H2.out.oxb]; omega))).trans (Ext.alloc' _ _ _ _))
            case measure => simp [intOf]; omega
    · obtain rfl : k = 7 := by omega
      go_wp2_with fail
      go_end0
      exact ⟨rfl, own1, h1, hr1, hx1⟩
end Go.Proofs.Qxb6500750aDoor
