import Derived.Test.Qxb6500750aDoorMre
namespace Go.Proofs.Qxb6500750aDoor
open Go.RowKit
attribute [local go_sem] put_size put_cell_same put_cell_ne put_frozen_same put_frozen_ne put_setCell_same put_setCell_ne put_drew
attribute [local go_sem] drewN_setCell drewN_alloc drewN_put upd_same upd_upd
attribute [local go_sem] mg_q mg_ac mg_tk mg_ba mg_wm mg_pv mg_av mg_sv mg_lf mg_en mg_rd mg_tu mg_is ms_q ms_ac ms_tk ms_ba ms_wm ms_pv ms_av ms_sv ms_lf ms_en ms_rd ms_tu ms_is
attribute [local go_sem] tg_0 tg_1 tg_2 tg_3 tg_4 tg_5 tg_6 tg_7 tg_8 tg_9 tg_10 tg_11 tg_12 tg_13 ts_5 ts_6 ts_7 ts_10 ts_11 ts_12 ts_13
def fr40 (mb i : Nat) (u : Nat → Value) : Act :=
  { tmps := ((.pointer (some ⟨mb, 0, none⟩)) :: (u 1) :: (u 2) :: (u 3) :: (u 4) :: (u 5) :: (.int .i64 (i : Nat)) :: (u 7) :: (u 8) :: (u 9) :: (u 10) :: (u 11) :: (u 12) :: (u 13) :: (u 14) :: (u 15) :: (u 16) :: (u 17) :: (u 18) :: (u 19) :: (u 20) :: (u 21) :: (u 22) :: (u 23) :: (u 24) :: (u 25) :: (u 26) :: (u 27) :: (u 28) :: (u 29) :: (u 30) :: (u 31) :: (u 32) :: (u 33) :: (u 34) :: (u 35) :: (u 36) :: (u 37) :: (u 38) :: (u 39) :: (u 40) :: (u 41) :: (u 42) :: (u 43) :: (u 44) :: (u 45) :: (u 46) :: (u 47) :: (u 48) :: (u 49) :: [] : List Value).toArray, defers := [] }
def fr40i (mb i : Nat) (a : Option Addr) (L cap j : Nat) (u : Nat → Value) : Act :=
  { tmps := ((.pointer (some ⟨mb, 0, none⟩)) :: (u 1) :: (.int .i64 (i : Nat)) :: (u 3) :: (u 4) :: (u 5) :: (.int .i64 (i : Nat)) :: (u 7) :: (u 8) :: (u 9) :: (u 10) :: (u 11) :: (u 12) :: (u 13) :: (.slice a L cap) :: (.int .i64 (L : Nat)) :: (.int .i64 (j : Nat)) :: (u 17) :: (u 18) :: (u 19) :: (u 20) :: (u 21) :: (u 22) :: (u 23) :: (u 24) :: (u 25) :: (u 26) :: (u 27) :: (u 28) :: (u 29) :: (u 30) :: (u 31) :: (u 32) :: (u 33) :: (u 34) :: (u 35) :: (u 36) :: (u 37) :: (u 38) :: (u 39) :: (u 40) :: (u 41) :: (u 42) :: (u 43) :: (u 44) :: (u 45) :: (u 46) :: (u 47) :: (u 48) :: (u 49) :: [] : List Value).toArray, defers := [] }
def fr40t (mb t : Nat) (u : Nat → Value) : Act :=
  { tmps := ((.pointer (some ⟨mb, 0, none⟩)) :: (u 1) :: (u 2) :: (u 3) :: (u 4) :: (u 5) :: (u 6) :: (u 7) :: (u 8) :: (u 9) :: (u 10) :: (u 11) :: (u 12) :: (u 13) :: (u 14) :: (u 15) :: (u 16) :: (u 17) :: (u 18) :: (u 19) :: (u 20) :: (u 21) :: (u 22) :: (u 23) :: (u 24) :: (u 25) :: (u 26) :: (u 27) :: (u 28) :: (u 29) :: (u 30) :: (u 31) :: (u 32) :: (u 33) :: (u 34) :: (u 35) :: (u 36) :: (u 37) :: (u 38) :: (u 39) :: (.int .i64 (t : Nat)) :: (u 41) :: (u 42) :: (u 43) :: (u 44) :: (u 45) :: (u 46) :: (u 47) :: (u 48) :: (u 49) :: [] : List Value).toArray, defers := [] }
def fr40e (mb i : Nat) (u : Nat → Value) : Act :=
  { tmps := ((.pointer (some ⟨mb, 0, none⟩)) :: (u 1) :: (.int .i64 (i : Nat)) :: (u 3) :: (u 4) :: (u 5) :: (.int .i64 (i : Nat)) :: (u 7) :: (u 8) :: (u 9) :: (u 10) :: (u 11) :: (u 12) :: (u 13) :: (u 14) :: (u 15) :: (u 16) :: (u 17) :: (u 18) :: (u 19) :: (u 20) :: (u 21) :: (u 22) :: (u 23) :: (u 24) :: (u 25) :: (u 26) :: (u 27) :: (u 28) :: (u 29) :: (u 30) :: (u 31) :: (u 32) :: (u 33) :: (u 34) :: (u 35) :: (u 36) :: (u 37) :: (u 38) :: (u 39) :: (u 40) :: (u 41) :: (u 42) :: (u 43) :: (u 44) :: (u 45) :: (u 46) :: (u 47) :: (u 48) :: (u 49) :: [] : List Value).toArray, defers := [] }

set_option maxRecDepth 100000 in
set_option maxHeartbeats 4000000 in
theorem lp40i {N : Int} {A : Nat} {σ : SS} (hX : XInv N A σ) {own : Nat → Nat} {w0 w : World} {mb i : Nat} (hi : i < 3) {M MM : MA} {tb : Nat → Int → Nat} (h0 : MR own w0 mb M tb σ) (a : Option Addr) (L cap : Nat) (hL : ((σ.x.mp i).iss - (σ.x.mp i).rt).toNat = L) (hv : M.q i = .slice a L cap) (hR : RI w0 mb MM tb σ i 0 w) (u0 : Nat → Value) (Q : Exit → Act → World → Prop)
    (hQ : ∀ u wr, RI w0 mb MM tb σ i L wr → Q (.exit 2) (fr40e mb i u) wr) (body : Code) (hbody : body = (loopsOf (((Tryd.f40.body.map loopsOf).getD []).getD 0 .skip)).getD 0 .skip) :
    (Code.loop body).wp Tryd.prog Q (fr40i mb i a L cap 0 u0) w := by
  subst hbody
  conv => arg 2; arg 1; whnf
  have hcn := hX.cnt i hi
  have hL4 : L ≤ 4 := by omega
  refine wp_loop (fun act wr => ∃ (u : Nat → Value) (j : Nat), act = fr40i mb i a L cap j u ∧ j ≤ L ∧ Hid (RI w0 mb MM tb σ i j wr)) (fun act _ => L - (intOf (act.tmps.getD 16 undef)).toNat) ?start ?round
  case start => exact ⟨u0, 0, rfl, by omega, hR⟩
  case round =>
    rintro a0 wr ⟨u, j, rfl, hj, hI⟩
    obtain ⟨KR, hKR⟩ : ∃ KR : Act → World → Prop, KR = fun a' w' => ((fun act wr => ∃ (u : Nat → Value) (j : Nat), act = fr40i mb i a L cap j u ∧ j ≤ L ∧ Hid (RI w0 mb MM tb σ i j wr)) a' w' ∧ L - (intOf (a'.tmps.getD 16 undef)).toNat < L - (intOf ((fr40i mb i a L cap j u).tmps.getD 16 undef)).toNat) := ⟨_, rfl⟩
    have HKR : Hid (∀ (act : Act) (w' : World), act = fr40i mb i a L cap (j + 1) (fun i => act.tmps.getD i undef) → j < L → RI w0 mb MM tb σ i (j + 1) w' → KR act w') := fun act w' e hjl hl => by
      rw [hKR]
      refine ⟨⟨_, j + 1, e, hjl, hl⟩, ?_⟩
      have e1 : act.tmps.getD 16 undef = .int .i64 ((j + 1 : Nat) : Int) := by rw [e]; rfl
      have e2 : (fr40i mb i a L cap j u).tmps.getD 16 undef = .int .i64 ((j : Nat) : Int) := rfl
      simp only [e1, e2, intOf]
      omega
    rw [← hKR]
    clear hKR
    have HQ := hid_of hQ
    have hadd : IntKind.i64.wrap (((j : Nat) : Int) + 1) = (j : Nat) + 1 := by simp [IntKind.wrap, IntKind.bits, IntKind.signed]; omega
    by_cases hjL : j < L
    · have hji : ((j : Nat) : Int) < (L : Nat) := by omega
      obtain ⟨hT, hD⟩ := hI.out.drop h0 hi (by omega)
      have hS := h0.queue i hi
      rw [hL] at hS
      obtain ⟨b, off, cap', hv', hc1, hbl⟩ := hS.form (by omega)
      rw [hv] at hv'
      injection hv' with e1 e2 e3
      subst e1; subst e3
      have hcell := hS.cell hv j (by simp [qrow]; exact hjL)
      have hxj : (qrow tb i (σ.x.mp i).rt L)[j]? = some (.pointer (some ⟨tb i ((σ.x.mp i).rt + (j : Nat)), 0, none⟩)) := by
        unfold qrow; rw [List.getElem?_map, List.getElem?_range hjL]; rfl
      rw [hxj] at hcell
      have hob : own b = 31 + i := h0.oq i hi b (by rw [hv]; rfl)
      have hot := h0.otx i hi ((σ.x.mp i).rt + (j : Nat)) (by omega) (by omega)
      have hsame : wr.heap[b]? = w0.heap[b]? := hI.out.oth b (fun e => by rw [e, h0.omb] at hob; omega) (fun m hm q q1 q2 _ e => by rw [e, h0.otx m hm q q1 q2] at hob; omega)
      obtain ⟨T, hTe⟩ : ∃ T, tb i ((σ.x.mp i).rt + (j : Nat)) = T := ⟨_, rfl⟩
      rw [hTe] at hT hD hcell hot
      have hbT : b ≠ T := fun e => by rw [e, hot] at hob; omega
      have hcell2 : wr.cell? ⟨b, off + j, none⟩ = some (.pointer (some ⟨T, 0, none⟩)) := by
        simp only [World.cell?] at hcell ⊢; rw [hsame]; exact hcell
      obtain ⟨x, hx⟩ : ∃ x, txOf σ.x i ((σ.x.mp i).rt + (j : Nat)) = x := ⟨_, rfl⟩
      rw [hx] at hT hD
      obtain ⟨w1, rfl, hl1⟩ := hT.out
      rw [put_cell_ne _ _ _ _ _ _ _ hbT] at hcell2
      rw [put_put] at hD
      have HD := hid_of hD
      clear hD hT hI h0 hR hQ hS hcell hxj hsame hv hL hx hTe hcn
      unfold fr40i
      go_wp2_with fail
      exact HKR.out _ _ (by kernel_rfl) hjL HD.out
    · have hji : ¬ ((j : Nat) : Int) < (L : Nat) := by omega
      have HE : j = L := by omega
      subst HE
      clear hQ h0 hv hL hR hcn
      unfold fr40i
      go_wp2_with fail
      exact q_of (Q := fun a => Q (.exit 2) a wr) (F := fr40e mb i) (fun u => HQ.out u wr hI.out) _ (by kernel_rfl)
set_option maxRecDepth 100000 in
set_option maxHeartbeats 4000000 in
theorem lp40 {N : Int} {A : Nat} {σ : SS} (hX : XInv N A σ) {own : Nat → Nat} {w0 w : World} {mb : Nat} {M : MA} {tb : Nat → Int → Nat} (h0 : MR own w0 mb M tb σ) (hR : RI w0 mb M tb σ 0 0 w) (u0 : Nat → Value) (Q : Exit → Act → World → Prop)
    (hQ : ∀ u wr, RI w0 mb (mzN M 3) tb σ 3 0 wr → Q (.exit 0) (fr40 mb 3 u) wr) (body : Code) (hbody : body = ((Tryd.f40.body.map loopsOf).getD []).getD 0 .skip) :
    (Code.loop body).wp Tryd.prog Q (fr40 mb 0 u0) w := by
  subst hbody
  conv => arg 2; arg 1; whnf
  refine wp_loop (fun act wr => ∃ (u : Nat → Value) (k : Nat), act = fr40 mb k u ∧ k ≤ 3 ∧ Hid (RI w0 mb (mzN M k) tb σ k 0 wr)) (fun act _ => 3 - (intOf (act.tmps.getD 6 undef)).toNat) ?start ?round
  case start => exact ⟨u0, 0, rfl, by omega, hR⟩
  case round =>
    rintro a0 wr ⟨u, k, rfl, hk, hI⟩
    obtain ⟨KR, hKR⟩ : ∃ KR : Act → World → Prop, KR = fun a' w' => ((fun act wr => ∃ (u : Nat → Value) (k : Nat), act = fr40 mb k u ∧ k ≤ 3 ∧ Hid (RI w0 mb (mzN M k) tb σ k 0 wr)) a' w' ∧ 3 - (intOf (a'.tmps.getD 6 undef)).toNat < 3 - (intOf ((fr40 mb k u).tmps.getD 6 undef)).toNat) := ⟨_, rfl⟩
    have HKR : Hid (∀ (act : Act) (w' : World), act = fr40 mb (k + 1) (fun i => act.tmps.getD i undef) → k < 3 → RI w0 mb (mzN M (k + 1)) tb σ (k + 1) 0 w' → KR act w') := fun act w' e hjl hl => by
      rw [hKR]
      refine ⟨⟨_, k + 1, e, hjl, hl⟩, ?_⟩
      have e1 : act.tmps.getD 6 undef = .int .i64 ((k + 1 : Nat) : Int) := by rw [e]; rfl
      have e2 : (fr40 mb k u).tmps.getD 6 undef = .int .i64 ((k : Nat) : Int) := rfl
      simp only [e1, e2, intOf]
      omega
    rw [← hKR]
    clear hKR
    have HQ := hid_of hQ
    have hadd : IntKind.i64.wrap (((k : Nat) : Int) + 1) = (k : Nat) + 1 := by simp [IntKind.wrap, IntKind.bits, IntKind.signed]; omega
    by_cases hk3 : k < 3
    · have hki : ((k : Nat) : Int) < 3 := by omega
      obtain ⟨L, hL⟩ : ∃ L, ((σ.x.mp k).iss - (σ.x.mp k).rt).toNat = L := ⟨_, rfl⟩
      have hS := h0.queue k hk3
      rw [hL] at hS
      obtain ⟨a, cap, hv⟩ := hS.form'
      have hqc := hI.out.blk.cell k
      rw [mg_q _ _ hk3, mzN_q, if_neg (by omega), hv] at hqc
      have HM := hid_of h0
      have HL := hid_of hL
      have HV := hid_of hv
      have HMZ : Hid (mzN M (k + 1) = { mzN M k with q := upd (mzN M k).q k (.slice none 0 0), ac := upd (mzN M k).ac k 0, tk := upd (mzN M k).tk k false }) := rfl
      have hdn : Hid (∀ m, m < 3 → ∀ q, (σ.x.mp m).rt ≤ q → q < (σ.x.mp m).iss → (Dn σ k L m q ↔ Dn σ (k + 1) 0 m q)) := fun m hm q q1 q2 => by
        unfold Dn
        constructor
        · rintro (h | ⟨rfl, h⟩)
          · exact .inl (by omega)
          · exact .inl (by omega)
        · rintro (h | ⟨rfl, h⟩)
          · by_cases e : m = k
            · subst e; exact .inr ⟨rfl, by have := HL.out; omega⟩
            · exact .inl (by omega)
          · omega
      clear hQ hR h0 hS hv hL
      unfold fr40
      go_wp2_with fail
      refine q_of (Q := fun a => (Code.loop _).wp Tryd.prog _ a _) (F := fr40i mb k a L cap 0) (fun u => lp40i hX hk3 HM.out a L cap HL.out HV.out hI.out u _ ?_ _ (by kernel_rfl)) _ (by kernel_rfl)
      intro u1 w1 hR1
      have hB1 := hR1.blk
      have HF : Hid (∀ n, RI w0 mb (mzN M (k + 1)) tb σ (k + 1) 0 ((put w1 mb (encM (mzN M (k + 1))) 104).drewN n)) := fun n => (hR1.mch HM.out (mzN M (k + 1)) n).mono hdn.out
      rw [HMZ.out] at HF
      obtain ⟨MM, hMM⟩ : ∃ MM, mzN M k = MM := ⟨_, rfl⟩
      rw [hMM] at HF hB1
      have HF2 : Hid (∀ (act : Act) (n : Nat), act = fr40 mb (k + 1) (fun i => act.tmps.getD i undef) → KR act ((put w1 mb (encM { MM with q := upd MM.q k (.slice none 0 0), ac := upd MM.ac k 0, tk := upd MM.tk k false }) 104).drewN n)) := fun act n e => HKR.out act _ e hk3 (by rw [HMZ.out, hMM]; exact HF.out n)
      obtain ⟨w2, rfl, hl2⟩ := hB1.out
      simp only [put_put] at HF2
      clear hR1 hB1 HF HKR hMM hdn HMZ hI hqc
      unfold fr40e
      go_upto_region 8 with fail
      refine wp_region_float [0, 1, 2, 3, 4, 5, 6, 7, 8, 10, 11, 14, 15] [9, 12, 13, 16, 17] [0, 1, 2, 3, 4, 5, 6, 7, 8, 10, 11, 14, 15] mixed (fun _ => True) (by kernel_rfl) rfl (by kernel_rfl) trivial ?_
      iterate 13 refine wpFl_op _ _ _ _ rfl rfl (fun ω hj => by go_simp; rfl) ?_
      refine wpFl_nil _ _ ?_
      simp only [Act.put, List.setIfInBounds_toArray]
      refine wpCh_rest _ _ _ _ [_, _, _, _, _] _ _ rfl (by kernel_rfl) ?_
      simp only [List.getElem_toArray, List.getElem_cons_succ, List.getElem_cons_zero]
      go_wp2_with fail
      exact HF2.out _ 1 (by kernel_rfl)
    · have hki : ¬ ((k : Nat) : Int) < 3 := by omega
      have HE : k = 3 := by omega
      subst HE
      clear hQ h0 hR
      unfold fr40
      go_wp2_with fail
      exact q_of (Q := fun a => Q (.exit 0) a wr) (F := fr40 mb 3) (fun u => HQ.out u wr hI.out) _ (by kernel_rfl)
set_option maxRecDepth 100000 in
set_option maxHeartbeats 4000000 in
theorem lp40t {σ : SS} {own : Nat → Nat} {w0 w : World} {mb : Nat} {M MM : MA} {tb : Nat → Int → Nat} (h0 : MR own w0 mb M tb σ) (hR : RI w0 mb MM tb σ 3 0 w) (u0 : Nat → Value) (Q : Exit → Act → World → Prop)
    (hQ : ∀ u wr, RI w0 mb (tzN MM 7) tb σ 3 0 wr → Q (.exit 4) (fr40t mb 7 u) wr) (body : Code) (hbody : body = ((Tryd.f40.body.map loopsOf).getD []).getD 1 .skip) :
    (Code.loop body).wp Tryd.prog Q (fr40t mb 0 u0) w := by
  subst hbody
  conv => arg 2; arg 1; whnf
  refine wp_loop (fun act wr => ∃ (u : Nat → Value) (k : Nat), act = fr40t mb k u ∧ k ≤ 7 ∧ Hid (RI w0 mb (tzN MM k) tb σ 3 0 wr)) (fun act _ => 7 - (intOf (act.tmps.getD 40 undef)).toNat) ?start ?round
  case start => exact ⟨u0, 0, rfl, by omega, hR⟩
  case round =>
    rintro a0 wr ⟨u, k, rfl, hk, hI⟩
    obtain ⟨KR, hKR⟩ : ∃ KR : Act → World → Prop, KR = fun a' w' => ((fun act wr => ∃ (u : Nat → Value) (k : Nat), act = fr40t mb k u ∧ k ≤ 7 ∧ Hid (RI w0 mb (tzN MM k) tb σ 3 0 wr)) a' w' ∧ 7 - (intOf (a'.tmps.getD 40 undef)).toNat < 7 - (intOf ((fr40t mb k u).tmps.getD 40 undef)).toNat) := ⟨_, rfl⟩
    have HKR : Hid (∀ (act : Act) (w' : World), act = fr40t mb (k + 1) (fun i => act.tmps.getD i undef) → k < 7 → RI w0 mb (tzN MM (k + 1)) tb σ 3 0 w' → KR act w') := fun act w' e hjl hl => by
      rw [hKR]
      refine ⟨⟨_, k + 1, e, hjl, hl⟩, ?_⟩
      have e1 : act.tmps.getD 40 undef = .int .i64 ((k + 1 : Nat) : Int) := by rw [e]; rfl
      have e2 : (fr40t mb k u).tmps.getD 40 undef = .int .i64 ((k : Nat) : Int) := rfl
      simp only [e1, e2, intOf]
      omega
    rw [← hKR]
    clear hKR
    have HQ := hid_of hQ
    have hadd : IntKind.i64.wrap (((k : Nat) : Int) + 1) = (k : Nat) + 1 := by simp [IntKind.wrap, IntKind.bits, IntKind.signed]; omega
    by_cases hk7 : k < 7
    · have hki : ((k : Nat) : Int) < 7 := by omega
      have HF : Hid (RI w0 mb (tzN MM (k + 1)) tb σ 3 0 ((put wr mb (encM (tzN MM (k + 1))) 104).drewN 0)) := hI.out.mch h0 (tzN MM (k + 1)) 0
      have HF1 : Hid (RI w0 mb (tzN MM (k + 1)) tb σ 3 0 (put wr mb (encM { tzN MM k with tg := upd (tzN MM k).tg k { (tzN MM k).tg k with tu := 0 } }) 104)) := HF.out
      have hB1 := hI.out.blk
      obtain ⟨M2, hM2⟩ : ∃ M2, tzN MM k = M2 := ⟨_, rfl⟩
      rw [hM2] at HF1 hB1
      obtain ⟨w2, rfl, hl2⟩ := hB1.out
      simp only [put_put] at HF1
      clear hQ h0 hR hI HF hM2 hB1
      unfold fr40t
      go_wp2_with fail
      exact HKR.out _ _ (by kernel_rfl) hk7 HF1.out
    · have hki : ¬ ((k : Nat) : Int) < 7 := by omega
      have HE : k = 7 := by omega
      subst HE
      clear hQ h0 hR
      unfold fr40t
      go_wp2_with fail
      exact q_of (Q := fun a => Q (.exit 4) a wr) (F := fr40t mb 7) (fun u => HQ.out u wr hI.out) _ (by kernel_rfl)
set_option maxRecDepth 100000 in
set_option maxHeartbeats 4000000 in
theorem mreset_any {own : Nat → Nat} {mb : Nat} {M : MA} {tb : Nat → Int → Nat} {σ : SS} {w : World} (h : MR own w mb M tb σ) {N : Int} {A : Nat} (hX : XInv N A σ) :
    Calls Tryd.prog 40 #[.pointer (some ⟨mb, 0, none⟩)] w fun e w' => e = .returned (.tuple #[]) ∧ ∃ M', MR own w' mb M' tb { σ with x := rstX σ.x } ∧ Ext own own SM w w' := by
  have hR0 : RI w mb M tb σ 0 0 w := ⟨h.blk, fun m hm q h1 h2 hd => by
      rcases hd with hd | ⟨_, hd⟩
      · omega
      · omega, fun _ _ _ => rfl, rfl, rfl, rfl, rfl⟩
  have H := hid_of h
  have HR0 := hid_of hR0
  clear h hR0
  go_enter Tryd.func40, Tryd.ntmps40
  go_wp2_with fail
  refine q_of (Q := fun a => (Code.loop _).wp Tryd.prog _ a _) (F := fr40 mb 0) (fun u => lp40 hX H.out HR0.out u _ ?_ _ (by kernel_rfl)) _ (by kernel_rfl)
  intro u1 w1 hR1
  have HR1 := hid_of hR1
  clear hR1 HR0
  unfold fr40
  go_wp2_with fail
  refine q_of (Q := fun a => (Code.loop _).wp Tryd.prog _ a _) (F := fr40t mb 0) (fun u => lp40t H.out HR1.out u _ ?_ _ (by kernel_rfl)) _ (by kernel_rfl)
  intro u2 w2 hR2
  obtain ⟨f1, f2⟩ := hR2.done hX H.out
  have HF := hid_of (And.intro f1 f2)
  clear hR2 HR1 f1 f2
  unfold fr40t
  go_wp2_with fail
  exact bodyPost_end (v := .tuple #[]) (results_none rfl _ _ _) rfl ⟨rfl, _, HF.out.1, HF.out.2⟩
end Go.Proofs.Qxb6500750aDoor
