import Derived.Test.Qxb6500750aDoorMio
namespace Go.Proofs.Qxb6500750aDoor
open Go.RowKit
/-! ### The machine's isolate -/
attribute [local go_sem] put_size put_cell_same put_cell_ne put_frozen_same put_frozen_ne put_setCell_same put_setCell_ne put_drew
attribute [local go_sem] drewN_setCell drewN_alloc drewN_put upd_same upd_upd
attribute [local go_sem] mg_q mg_ac mg_tk mg_ba mg_wm mg_pv mg_av mg_sv mg_lf mg_en mg_rd mg_tu mg_is ms_q ms_ac ms_tk ms_ba ms_wm ms_pv ms_av ms_sv ms_lf ms_en ms_rd ms_tu ms_is
attribute [local go_sem] tg_0 tg_1 tg_2 tg_3 tg_4 tg_5 tg_6 tg_7 tg_8 tg_9 tg_10 tg_11 tg_12 tg_13 ts_5 ts_6 ts_7 ts_10 ts_11 ts_12 ts_13
theorem mr_pre1 {own : Nat → Nat} {mb : Nat} {M : MA} {tb : Nat → Int → Nat} {σ : SS} {w : World} (h : MR own w mb M tb σ) :
    MR (mark own w.heap.size 50) (w.alloc (.cells (encO false 0 0 rep0) 43)) mb M tb σ ∧ Blk (w.alloc (.cells (encO false 0 0 rep0) 43)) w.heap.size (encO false 0 0 rep0) 43 ∧ mark own w.heap.size 50 w.heap.size = 50 ∧
    Ext own (mark own w.heap.size 50) (fun _ => False) w (w.alloc (.cells (encO false 0 0 rep0) 43)) := by
  have hx : Ext own (mark own w.heap.size 50) (fun _ => False) w (w.alloc (.cells (encO false 0 0 rep0) 43)) := Ext.alloc own _ w _ 50
  exact ⟨h.ext hx (fun _ _ h => h), Blk.new w _ _, mark_ge (Nat.le_refl _), hx⟩
def isoK (σ : SS) (m j : Nat) : Nat := ((σ.x.mp m).rt + (j : Nat) - (σ.x.mp m).gr).toNat
def isoS (σ : SS) (m j : Nat) : SS := ⟨cancelN m (isoK σ m j) (σ.x.setM m { σ.x.mp m with iso := true }), σ.p⟩
def I39 (own : Nat → Nat) (W0 : World) (mb n : Nat) (M1 : MA) (tb : Nat → Int → Nat) (σ : SS) (m j : Nat) (wr : World) : Prop :=
  MR own wr mb M1 tb (isoS σ m j) ∧ Blk wr n (encO false 0 0 rep0) 43 ∧ Ext own own SM W0 wr
theorem isoS_mp (σ : SS) (m j : Nat) : ((isoS σ m j).x.mp m).gr = (σ.x.mp m).gr + (isoK σ m j : Nat) ∧ ((isoS σ m j).x.mp m).iss = (σ.x.mp m).iss ∧ ((isoS σ m j).x.mp m).rt = (σ.x.mp m).rt := by
  unfold isoS
  have h1 := cancelN_mp m (isoK σ m j) (σ.x.setM m { σ.x.mp m with iso := true })
  have h2 : (σ.x.setM m { σ.x.mp m with iso := true }).mp m = { σ.x.mp m with iso := true } := setM_mp _ _ _
  rw [h2] at h1
  refine ⟨h1.1, h1.2, ?_⟩
  generalize isoK σ m j = k
  have h3 : ∀ k, ((cancelN m k (σ.x.setM m { σ.x.mp m with iso := true })).mp m).rt = (σ.x.mp m).rt := fun k => by
    induction k with
    | zero => show ((σ.x.setM m { σ.x.mp m with iso := true }).mp m).rt = _; rw [h2]
    | succ k ih => show ((cancelT (cancelN m k _) m).mp m).rt = _; unfold cancelT; rw [setM_mp]; exact ih
  exact h3 k
theorem I39.step {N : Int} {A : Nat} {σ : SS} (hX : XInv N A σ) {own : Nat → Nat} {W0 wr : World} {mb n m j L : Nat} {M1 : MA} {tb : Nat → Int → Nat} (hm : m < 3) (hon : own n = 50) (hL : ((σ.x.mp m).iss - (σ.x.mp m).rt).toNat = L) (hj : j < L) (h : I39 own W0 mb n M1 tb σ m j wr) :
    ∃ (b off cap T : Nat) (x : TX), M1.q m = .slice (some ⟨b, off, none⟩) L cap ∧ wr.cell? ⟨b, off + j, none⟩ = some (.pointer (some ⟨T, 0, none⟩)) ∧ b ≠ T ∧ Blk wr T (encT x) 148 ∧
      ((x.gr = true ∧ I39 own W0 mb n M1 tb σ m (j + 1) wr) ∨ (x.gr = false ∧ I39 own W0 mb n M1 tb σ m (j + 1) (put wr T (encT (canT x)) 148))) := by
  obtain ⟨hM, hP, hE⟩ := h
  obtain ⟨g1, g2, g3⟩ := isoS_mp σ m j
  have hc := hX.cnt m hm
  have hS := hM.queue m hm
  rw [g2, g3, hL] at hS
  obtain ⟨b, off, cap, hv, hc1, hbl⟩ := hS.form (by omega)
  have hcell := hS.cell hv j (by simp [qrow]; exact hj)
  have hxj : (qrow tb m (σ.x.mp m).rt L)[j]? = some (.pointer (some ⟨tb m ((σ.x.mp m).rt + (j : Nat)), 0, none⟩)) := by
    unfold qrow; rw [List.getElem?_map, List.getElem?_range hj]; rfl
  rw [hxj] at hcell
  have htx := hM.tx m hm ((σ.x.mp m).rt + (j : Nat)) (by rw [g3]; omega) (by rw [g2]; omega)
  have hot := hM.otx m hm ((σ.x.mp m).rt + (j : Nat)) (by rw [g3]; omega) (by rw [g2]; omega)
  have hob : own b = 31 + m := hM.oq m hm b (by rw [hv]; rfl)
  refine ⟨b, off, cap, _, _, hv, hcell, fun e => by rw [e, hot] at hob; omega, htx, ?_⟩
  by_cases hg : (σ.x.mp m).rt + (j : Nat) < (σ.x.mp m).gr
  · left
    have e : isoS σ m (j + 1) = isoS σ m j := by
      unfold isoS isoK
      rw [show ((σ.x.mp m).rt + ((j + 1 : Nat) : Int) - (σ.x.mp m).gr).toNat = 0 by omega, show ((σ.x.mp m).rt + ((j : Nat) : Int) - (σ.x.mp m).gr).toNat = 0 by omega]
    refine ⟨?_, by unfold I39; rw [e]; exact ⟨hM, hP, hE⟩⟩
    show decide (_ < ((isoS σ m j).x.mp m).gr) = true
    rw [g1]; exact decide_eq_true (by omega)
  · right
    have hk : isoK σ m (j + 1) = isoK σ m j + 1 := by unfold isoK; omega
    have hgj : ((isoS σ m j).x.mp m).gr = (σ.x.mp m).rt + (j : Nat) := by rw [g1]; unfold isoK; omega
    have hX1 : XInv N A ⟨σ.x.setM m { σ.x.mp m with iso := true }, σ.p⟩ := hX.master { σ.x.mp m with iso := true } rfl rfl rfl (Int.le_refl _) hc.2.1 (fun t ht hf e => by have := (hX.fly t ht hf).1; rw [e] at this; exact this)
    have h2 : (σ.x.setM m { σ.x.mp m with iso := true }).mp m = { σ.x.mp m with iso := true } := setM_mp _ _ _
    have hXj : XInv N A (isoS σ m j) := hX1.cancelN hm (isoK σ m j) (by
      show ((σ.x.setM m { σ.x.mp m with iso := true }).mp m).gr + _ ≤ ((σ.x.setM m { σ.x.mp m with iso := true }).mp m).iss
      rw [h2]; show (σ.x.mp m).gr + _ ≤ (σ.x.mp m).iss; unfold isoK; omega)
    refine ⟨?_, ?_⟩
    · show decide (_ < ((isoS σ m j).x.mp m).gr) = false
      rw [hgj]; exact decide_eq_false (by omega)
    · have hcn := hM.cancel hXj hm (by rw [hgj, g2]; omega)
      rw [hgj] at hcn
      have e : isoS σ m (j + 1) = { isoS σ m j with x := cancelT (isoS σ m j).x m } := by unfold isoS; rw [hk]; rfl
      have hTn : n ≠ tb m ((σ.x.mp m).rt + (j : Nat)) := fun e => by rw [← e, hon] at hot; omega
      unfold I39
      rw [e]
      exact ⟨hcn, hP.put_ne hTn, hE.trans (Ext.put (by rw [hot]; unfold SM; omega))⟩
def fr39 (mb n m : Nat) (a : Option Addr) (L cap j : Nat) (u : Nat → Value) : Act :=
  { tmps := ((.pointer (some ⟨mb, 0, none⟩)) :: (.int .u32 (m : Nat)) :: (.bool true) :: (u 3) :: (u 4) :: (u 5) :: (.pointer (some ⟨n, 0, none⟩)) :: (u 7) :: (u 8) :: (u 9) :: (u 10) :: (u 11) :: (u 12) :: (u 13) :: (u 14) :: (u 15) :: (u 16) :: (u 17) :: (u 18) :: (u 19) :: (u 20) :: (u 21) :: (u 22) :: (u 23) :: (u 24) :: (u 25) :: (u 26) :: (u 27) :: (u 28) :: (u 29) :: (u 30) :: (u 31) :: (u 32) :: (u 33) :: (u 34) :: (.slice a L cap) :: (.int .i64 (L : Nat)) :: (.int .i64 (j : Nat)) :: (u 38) :: (u 39) :: (u 40) :: (u 41) :: (u 42) :: (u 43) :: (u 44) :: (u 45) :: (u 46) :: (u 47) :: (u 48) :: (u 49) :: (u 50) :: (u 51) :: (u 52) :: (u 53) :: (u 54) :: (u 55) :: (u 56) :: (u 57) :: [] : List Value).toArray, defers := [] }

set_option maxRecDepth 100000 in
set_option maxHeartbeats 4000000 in
theorem lp39 {N : Int} {A : Nat} {σ : SS} (hX : XInv N A σ) {own : Nat → Nat} {W0 w : World} {mb n m : Nat} (hm : m < 3) {M1 : MA} {tb : Nat → Int → Nat} (hon : own n = 50) (a : Option Addr) (L cap : Nat) (hL : ((σ.x.mp m).iss - (σ.x.mp m).rt).toNat = L) (hv : M1.q m = .slice a L cap) (h0 : I39 own W0 mb n M1 tb σ m 0 w) (u0 : Nat → Value) (Q : Exit → Act → World → Prop)
    (hQ : ∀ u wr, I39 own W0 mb n M1 tb σ m L wr → Q (.exit 0) (fr39 mb n m a L cap L u) wr) (body : Code) (hbody : body = ((Tryd.f39.body.map loopsOf).getD []).getD 0 .skip) :
    (Code.loop body).wp Tryd.prog Q (fr39 mb n m a L cap 0 u0) w := by
  subst hbody
  conv => arg 2; arg 1; whnf
  have hL4 : L ≤ 4 := by have := hX.cnt m hm; omega
  refine wp_loop (fun act wr => ∃ (u : Nat → Value) (j : Nat), act = fr39 mb n m a L cap j u ∧ j ≤ L ∧ Hid (I39 own W0 mb n M1 tb σ m j wr)) (fun act _ => L - (intOf (act.tmps.getD 37 undef)).toNat) ?start ?round
  case start => exact ⟨u0, 0, rfl, by omega, h0⟩
  case round =>
    rintro a0 wr ⟨u, j, rfl, hj, hI⟩
    obtain ⟨KR, hKR⟩ : ∃ KR : Act → World → Prop, KR = fun a' w' => ((fun act wr => ∃ (u : Nat → Value) (j : Nat), act = fr39 mb n m a L cap j u ∧ j ≤ L ∧ Hid (I39 own W0 mb n M1 tb σ m j wr)) a' w' ∧ L - (intOf (a'.tmps.getD 37 undef)).toNat < L - (intOf ((fr39 mb n m a L cap j u).tmps.getD 37 undef)).toNat) := ⟨_, rfl⟩
    have HKR : Hid (∀ (act : Act) (w' : World), act = fr39 mb n m a L cap (j + 1) (fun i => act.tmps.getD i undef) → j < L → I39 own W0 mb n M1 tb σ m (j + 1) w' → KR act w') := fun act w' e hjl hl => by
      rw [hKR]
      refine ⟨⟨_, j + 1, e, hjl, hl⟩, ?_⟩
      have e1 : act.tmps.getD 37 undef = .int .i64 ((j + 1 : Nat) : Int) := by rw [e]; rfl
      have e2 : (fr39 mb n m a L cap j u).tmps.getD 37 undef = .int .i64 ((j : Nat) : Int) := rfl
      simp only [e1, e2, intOf]
      omega
    rw [← hKR]
    clear hKR
    have HQ := hid_of hQ
    have hadd : IntKind.i64.wrap (((j : Nat) : Int) + 1) = (j : Nat) + 1 := by simp [IntKind.wrap, IntKind.bits, IntKind.signed]; omega
    by_cases hjL : j < L
    · have hji : ((j : Nat) : Int) < (L : Nat) := by omega
      obtain ⟨b, off, cap', T, x, hv', hcell, hbT, hT, hcase⟩ := hI.out.step hX hm hon hL hjL
      rw [hv] at hv'
      injection hv' with e1 e2 e3
      subst e1; subst e3
      obtain ⟨w0, rfl, hl0⟩ := hT.out
      rw [put_cell_ne _ _ _ _ _ _ _ hbT] at hcell
      clear hQ h0 hI hv hL hT
      rcases hcase with ⟨hg, hI1⟩ | ⟨hg, hI1⟩
      · have HI1 := hid_of hI1
        clear hI1
        unfold fr39
        go_wp2_with fail
        exact HKR.out _ _ (by kernel_rfl) hjL HI1.out
      · rw [put_put] at hI1
        have HI1 := hid_of hI1
        unfold canT at HI1
        clear hI1
        unfold fr39
        go_wp2_with fail
        exact HKR.out _ _ (by kernel_rfl) hjL HI1.out
    · have hji : ¬ ((j : Nat) : Int) < (L : Nat) := by omega
      have HE : j = L := by omega
      subst HE
      clear hQ h0 hv hL
      unfold fr39
      go_wp2_with fail
      exact q_of (Q := fun a => Q (.exit 0) a wr) (F := fr39 mb n m a j cap j) (fun u => HQ.out u wr hI.out) _ (by kernel_rfl)
set_option maxRecDepth 100000 in
set_option maxHeartbeats 4000000 in
theorem misolate_any {own : Nat → Nat} {mb : Nat} {M : MA} {tb : Nat → Int → Nat} {σ : SS} {w : World} (h : MR own w mb M tb σ) {N : Int} {A : Nat} (hX : XInv N A σ) (a : Int) (ha : 0 ≤ a) (ha1 : a < 4294967296) (on : Bool) :
    Calls Tryd.prog 39 #[.pointer (some ⟨mb, 0, none⟩), .int .u32 a, .bool on] w fun e w' => e = .returned (.agg (encO (!isoR (idx a)) 0 0 rep0)) ∧ ∃ own' M', MR own' w' mb M' tb { σ with x := isoX σ.x (idx a) on } ∧ Ext own own' SM w w' := by
  obtain ⟨p1, p3, p4, p5⟩ := mr_pre1 h
  have hW0 : Hid ((w.alloc (.cells (encO false 0 0 rep0) 43)) = (w.alloc (.cells #[.bool false, .int .u8 0, .int .u32 0, .int .i8 0, .int .i8 0, .int .i8 0, .int .i8 0, .int .i8 0, .int .i8 0, .int .i8 0, .bool false, .int .u32 0, .int .u8 0, .int .u32 0, .int .u8 0, .int .u8 0, .bool false, .int .u32 0, .int .u8 0, .int .u32 0, .int .u8 0, .int .u8 0, .bool false, .int .u32 0, .int .u8 0, .int .u32 0, .int .u8 0, .int .u8 0, .int .u8 0, .int .u8 0] 43))) := by unfold Hid; rw [encO_zero]
  by_cases h9 : 9 ≤ a
  · have e1 : isoR (idx a) = false := by unfold isoR idx; split <;> simp <;> omega
    have e2 : isoX σ.x (idx a) on = σ.x := by unfold isoX; rw [if_pos (by unfold idx; split <;> omega)]
    rw [e1, e2, Bool.not_false]
    have HF := hid_of (mr_post p1 p4 (p5.mono (S' := SM) (fun _ h => h.elim)) (Nat.le_refl _) (encO true 0 0 rep0))
    have P3 := hid_of p3
    clear h p1 p3 p5 e1 e2
    rw [hW0.out] at P3 HF
    go_enter Tryd.func39, Tryd.ntmps39
    go_wp2_with ((with_reducible show wpList _ _ _ ({ dst := none, op := Op.store 43 _ _, type := _, pos := _, after := _, guard := _ } :: _) _ _); rw [← encO_lit0]; refine wpList_store_row (by rfl) 43 (.tmp 6) (.tmp 11) (by rfl) w.heap.size (encO true 0 0 rep0) (by rfl) (by rfl) 43 (encO false 0 0 rep0) P3.out (by rw [Tryd.size43, encO_size]) (by simp only [encO_size]) (encO_one _ _ _ _) ?_; rw [setRow_put P3.out])
    exact bodyPost_ret (v := .agg (encO true 0 0 rep0)) (results_cell_row (by rfl) _ _ w.heap.size 43 _ (0, 0) _ (by rfl) (Blk.put_same P3.out.lt) Tryd.underlying43 rfl (by rw [Tryd.size43, encO_size])) rfl ⟨rfl, _, _, HF.out.1, HF.out.2⟩
  by_cases h3 : 3 ≤ a
  · obtain ⟨t, ht⟩ : ∃ t : Nat, a - 3 = (t : Nat) := Int.eq_ofNat_of_zero_le (by omega)
    have ht7 : t < 7 := by omega
    have hti : ((t : Nat) : Int) < 7 := by omega
    have hsub : (a - 3) % 4294967296 = (t : Nat) := by omega
    have eix : idx a = a := by unfold idx; rw [if_neg (by omega)]
    have e1 : isoR (idx a) = true := by rw [eix]; unfold isoR; simp; omega
    have e2 : isoX σ.x (idx a) on = σ.x.setT t { σ.x.tp t with iso := on } := by rw [eix]; unfold isoX; rw [if_neg (by omega), if_pos h3, ht, Int.toNat_natCast]
    rw [e1, e2, Bool.not_true]
    have hcut := p1.cut ht7 on
    have hB := p1.blk
    obtain ⟨W, hW⟩ : ∃ W, w.alloc (.cells (encO false 0 0 rep0) 43) = W := ⟨_, rfl⟩
    have hWl := hW0.out.symm.trans hW
    rw [hW] at p1 p3 p5 hcut hB
    have hnm : w.heap.size ≠ mb := fun e => by have h8 := p1.omb; rw [← e, p4] at h8; omega
    have hx1 : Ext own (mark own w.heap.size 50) SM w (put W mb (encM { M with tg := upd M.tg t { M.tg t with is := on } }) 104) := (p5.mono (S' := SM) (fun _ h => h.elim)).trans (Ext.put (by rw [p1.omb]; unfold SM; omega))
    have HF := hid_of (mr_post hcut p4 hx1 (Nat.le_refl _) (encO false 0 0 rep0))
    have P3 := hid_of (p3.put_ne (cs := encM { M with tg := upd M.tg t { M.tg t with is := on } }) (T := 104) hnm)
    obtain ⟨w0, rfl, hl0⟩ := hB.out
    rw [put_put] at HF P3
    clear h p1 p3 p5 e1 e2 hcut hB hx1 hW eix
    go_enter Tryd.func39, Tryd.ntmps39
    go_upto_region 1 with fail
    clear hWl
    go_wp2_with ((with_reducible show wpList _ _ _ ({ dst := none, op := Op.store 43 _ _, type := _, pos := _, after := _, guard := _ } :: _) _ _); rw [← encO_lit0]; refine wpList_store_row (by rfl) 43 (.tmp 6) (.tmp 22) (by rfl) w.heap.size (encO false 0 0 rep0) (by rfl) (by rfl) 43 (encO false 0 0 rep0) P3.out (by rw [Tryd.size43, encO_size]) (by simp only [encO_size]) (encO_one _ _ _ _) ?_; rw [setRow_put P3.out])
    exact bodyPost_ret (v := .agg (encO false 0 0 rep0)) (results_cell_row (by rfl) _ _ w.heap.size 43 _ (0, 0) _ (by rfl) (Blk.put_same P3.out.lt) Tryd.underlying43 rfl (by rw [Tryd.size43, encO_size])) rfl ⟨rfl, mark own w.heap.size 50, ⟨{ M with tg := upd M.tg t { M.tg t with is := on } }, HF.out.1⟩, HF.out.2⟩
  · obtain ⟨m, rfl⟩ : ∃ m : Nat, a = (m : Nat) := Int.eq_ofNat_of_zero_le ha
    have hm3 : m < 3 := by omega
    have hmi : ((m : Nat) : Int) < 3 := by omega
    have eix : idx ((m : Nat) : Int) = (m : Nat) := by unfold idx; rw [if_neg (by omega)]
    have e1 : isoR (idx ((m : Nat) : Int)) = true := by rw [eix]; unfold isoR; simp; omega
    have e2 : isoX σ.x (idx ((m : Nat) : Int)) on = isoM σ.x m on := by rw [eix]; unfold isoX; rw [if_neg (by omega), if_neg h3, Int.toNat_natCast]
    rw [e1, e2, Bool.not_true]
    have hbar := p1.bar (m := m) on
    have hB := p1.blk
    obtain ⟨W, hW⟩ : ∃ W, w.alloc (.cells (encO false 0 0 rep0) 43) = W := ⟨_, rfl⟩
    have hWl := hW0.out.symm.trans hW
    rw [hW] at p1 p3 p5 hbar hB
    have hnm : w.heap.size ≠ mb := fun e => by have h8 := p1.omb; rw [← e, p4] at h8; omega
    have hx1 : Ext own (mark own w.heap.size 50) SM w (put W mb (encM { M with ba := upd M.ba m on }) 104) := (p5.mono (S' := SM) (fun _ h => h.elim)).trans (Ext.put (by rw [p1.omb]; unfold SM; omega))
    have hP3 := p3.put_ne (cs := encM { M with ba := upd M.ba m on }) (T := 104) hnm
    cases on
    · have e3 : isoM σ.x m false = σ.x.setM m { σ.x.mp m with iso := false } := rfl
      rw [e3]
      have HF := hid_of (mr_post hbar p4 hx1 (Nat.le_refl _) (encO false 0 0 rep0))
      have P3 := hid_of hP3
      obtain ⟨w0, rfl, hl0⟩ := hB.out
      rw [put_put] at HF P3
      clear h p1 p3 p5 e1 e2 hbar hB hx1 hW hP3 eix
      go_enter Tryd.func39, Tryd.ntmps39
      go_upto_region 1 with fail
      clear hWl
      go_wp2_with ((with_reducible show wpList _ _ _ ({ dst := none, op := Op.store 43 _ _, type := _, pos := _, after := _, guard := _ } :: _) _ _); rw [← encO_lit0]; refine wpList_store_row (by rfl) 43 (.tmp 6) (.tmp 57) (by rfl) w.heap.size (encO false 0 0 rep0) (by rfl) (by rfl) 43 (encO false 0 0 rep0) P3.out (by rw [Tryd.size43, encO_size]) (by simp only [encO_size]) (encO_one _ _ _ _) ?_; rw [setRow_put P3.out])
      exact bodyPost_ret (v := .agg (encO false 0 0 rep0)) (results_cell_row (by rfl) _ _ w.heap.size 43 _ (0, 0) _ (by rfl) (Blk.put_same P3.out.lt) Tryd.underlying43 rfl (by rw [Tryd.size43, encO_size])) rfl ⟨rfl, mark own w.heap.size 50, ⟨{ M with ba := upd M.ba m false }, HF.out.1⟩, HF.out.2⟩
    · obtain ⟨L, hL⟩ : ∃ L, ((σ.x.mp m).iss - (σ.x.mp m).rt).toNat = L := ⟨_, rfl⟩
      have hS := p1.queue m hm3
      rw [hL] at hS
      obtain ⟨ad, cap, hv⟩ := hS.form'
      have hk0 : isoS σ m 0 = ⟨σ.x.setM m { σ.x.mp m with iso := true }, σ.p⟩ := by
        unfold isoS
        have : isoK σ m 0 = 0 := by unfold isoK; have := hX.cnt m hm3; omega
        rw [this]; rfl
      have hI0 : I39 (mark own w.heap.size 50) (put W mb (encM { M with ba := upd M.ba m true }) 104) mb w.heap.size { M with ba := upd M.ba m true } tb σ m 0 (put W mb (encM { M with ba := upd M.ba m true }) 104) := ⟨by rw [hk0]; exact hbar, hP3, Ext.refl _ _ _⟩
      have hkL : isoS σ m L = { σ with x := isoM σ.x m true } := by
        unfold isoS isoM
        have : isoK σ m L = ((σ.x.mp m).iss - (σ.x.mp m).gr).toNat := by unfold isoK; have := hX.cnt m hm3; omega
        rw [this]; rfl
      have HI0 := hid_of hI0
      have HKL := hid_of hkL
      have HX1 := hid_of hx1
      have HV : Hid (({ M with ba := upd M.ba m true } : MA).q m = .slice ad L cap) := hv
      have HL := hid_of hL
      have hqc := hB.cell m
      rw [mg_q _ _ hm3, hv] at hqc
      have hql : (put W mb (encM { M with ba := upd M.ba m true }) 104).cell? ⟨mb, m, none⟩ = some (.slice ad L cap) := by
        rw [(Blk.put_same hB.lt).cell, mg_q _ _ hm3]; exact congrArg some hv
      obtain ⟨w0, rfl, hl0⟩ := hB.out
      rw [put_put] at HI0 HX1 hql
      clear h p1 p3 p5 e1 e2 hbar hB hx1 hW hP3 eix hI0 hkL hk0 hS hqc hL
      have HVV := hid_of hv
      clear hv
      go_enter Tryd.func39, Tryd.ntmps39
      go_upto_region 8 with fail
      clear hWl
      refine wp_region_list ?_
      have hvv := HVV.out
      go_wp2_with fail
      clear hvv
      refine q_of (Q := fun a => (Code.loop _).wp Tryd.prog _ a _) (F := fr39 mb w.heap.size m ad L cap 0) (fun u => lp39 (M1 := { M with ba := upd M.ba m true }) hX hm3 p4 ad L cap HL.out HV.out HI0.out u _ ?_ _ (by kernel_rfl)) _ (by kernel_rfl)
      intro u w9 hI9
      obtain ⟨hM9, hP9, hE9⟩ := hI9
      have hM9' : MR (mark own w.heap.size 50) w9 mb { M with ba := upd M.ba m true } tb { σ with x := isoM σ.x m true } := by rw [← HKL.out]; exact hM9
      have HF := hid_of (mr_post hM9' p4 (HX1.out.trans hE9) (Nat.le_refl _) (encO false 0 0 rep0))
      have P3 := hid_of hP9
      clear hM9 hP9 hE9 hM9' HX1 HI0 HKL
      unfold fr39
      go_wp2_with ((with_reducible show wpList _ _ _ ({ dst := none, op := Op.store 43 _ _, type := _, pos := _, after := _, guard := _ } :: _) _ _); rw [← encO_lit0]; refine wpList_store_row (by rfl) 43 (.tmp 6) (.tmp 57) (by rfl) w.heap.size (encO false 0 0 rep0) (by rfl) (by rfl) 43 (encO false 0 0 rep0) P3.out (by rw [Tryd.size43, encO_size]) (by simp only [encO_size]) (encO_one _ _ _ _) ?_; rw [setRow_put P3.out])
      exact bodyPost_ret (v := .agg (encO false 0 0 rep0)) (results_cell_row (by rfl) _ _ w.heap.size 43 _ (0, 0) _ (by rfl) (Blk.put_same P3.out.lt) Tryd.underlying43 rfl (by rw [Tryd.size43, encO_size])) rfl ⟨rfl, _, _, HF.out.1, HF.out.2⟩
end Go.Proofs.Qxb6500750aDoor
