import Derived.Test.Qxb6500750aDoorMt1
namespace Go.Proofs.Qxb6500750aDoor
open Go.RowKit
/-! ### The machine's tick: the candidates -/
def encC (f : Nat → Value) : Array Value := row 3 f
theorem cg_get (f : Nat → Value) (m : Nat) (hm : m < 3) : (encC f)[m]? = some (f m) := row_get 3 _ m hm
theorem cg_set (f : Nat → Value) (m : Nat) (v : Value) : (encC f).setIfInBounds m v = encC (upd f m v) := by
  refine row_set _ _ _ _ _ fun j _ => ?_
  by_cases e : j = m
  · rw [if_pos e, e, upd_same]
  · rw [if_neg e, upd_ne _ _ _ _ e]
/-- The request of master m that stands for arbitration. -/
def candV (tb : Nat → Int → Nat) (x : XS) (m : Nat) : Value := if (x.mp m).gr < (x.mp m).iss then .pointer (some ⟨tb m (x.mp m).gr, 0, none⟩) else .pointer none
attribute [local go_sem] put_size put_cell_same put_cell_ne put_frozen_same put_frozen_ne put_setCell_same put_setCell_ne put_drew
attribute [local go_sem] drewN_setCell drewN_alloc drewN_put upd_same upd_upd cg_get cg_set
def fr38b (mb n : Nat) (p : Int) (cb : Nat) (qv : Value) (k : Nat) (u : Nat → Value) : Act :=
  { tmps := ((.pointer (some ⟨mb, 0, none⟩)) :: (.int .u32 p) :: (u 2) :: (u 3) :: (.pointer (some ⟨n, 0, none⟩)) :: (.pointer (some ⟨n + 1, 0, none⟩)) :: (u 6) :: (u 7) :: (.pointer (some ⟨cb, 0, none⟩)) :: (u 9) :: (u 10) :: (u 11) :: (u 12) :: (u 13) :: (u 14) :: (u 15) :: (u 16) :: (u 17) :: (u 18) :: (u 19) :: (u 20) :: (u 21) :: (u 22) :: (u 23) :: (u 24) :: (u 25) :: (u 26) :: (u 27) :: (u 28) :: (u 29) :: (u 30) :: (u 31) :: (u 32) :: (u 33) :: (u 34) :: (u 35) :: (u 36) :: (u 37) :: (u 38) :: (u 39) :: (u 40) :: (u 41) :: (u 42) :: (u 43) :: (u 44) :: (u 45) :: (u 46) :: (u 47) :: (u 48) :: (u 49) :: (u 50) :: (u 51) :: (u 52) :: (u 53) :: (u 54) :: (u 55) :: qv :: (.int .i64 (k : Nat)) :: (u 58) :: (u 59) :: (u 60) :: (u 61) :: (u 62) :: (u 63) :: (u 64) :: (u 65) :: (u 66) :: (u 67) :: (u 68) :: (u 69) :: (u 70) :: (u 71) :: (u 72) :: (u 73) :: (u 74) :: (u 75) :: (u 76) :: (u 77) :: (u 78) :: (u 79) :: (u 80) :: (u 81) :: (u 82) :: (u 83) :: (u 84) :: (u 85) :: (u 86) :: (u 87) :: (u 88) :: (u 89) :: (u 90) :: (u 91) :: (u 92) :: (u 93) :: (u 94) :: (u 95) :: (u 96) :: (u 97) :: (u 98) :: (u 99) :: (u 100) :: (u 101) :: (u 102) :: (u 103) :: (u 104) :: (u 105) :: (u 106) :: (u 107) :: (u 108) :: (u 109) :: (u 110) :: (u 111) :: (u 112) :: (u 113) :: (u 114) :: (u 115) :: (u 116) :: (u 117) :: (u 118) :: (u 119) :: (u 120) :: (u 121) :: (u 122) :: (u 123) :: (u 124) :: (u 125) :: (u 126) :: (u 127) :: (u 128) :: (u 129) :: (u 130) :: (u 131) :: (u 132) :: (u 133) :: (u 134) :: (u 135) :: (u 136) :: (u 137) :: (u 138) :: (u 139) :: (u 140) :: (u 141) :: (u 142) :: (u 143) :: (u 144) :: (u 145) :: (u 146) :: (u 147) :: (u 148) :: (u 149) :: (u 150) :: (u 151) :: (u 152) :: (u 153) :: (u 154) :: (u 155) :: (u 156) :: (u 157) :: (u 158) :: (u 159) :: (u 160) :: (u 161) :: (u 162) :: (u 163) :: (u 164) :: (u 165) :: (u 166) :: (u 167) :: (u 168) :: (u 169) :: (u 170) :: (u 171) :: (u 172) :: (u 173) :: (u 174) :: (u 175) :: (u 176) :: (u 177) :: (u 178) :: (u 179) :: (u 180) :: (u 181) :: (u 182) :: (u 183) :: (u 184) :: (u 185) :: (u 186) :: (u 187) :: (u 188) :: (u 189) :: (u 190) :: (u 191) :: (u 192) :: (u 193) :: (u 194) :: (u 195) :: (u 196) :: (u 197) :: (u 198) :: (u 199) :: (u 200) :: (u 201) :: (u 202) :: (u 203) :: (u 204) :: (u 205) :: (u 206) :: (u 207) :: (u 208) :: (u 209) :: (u 210) :: (u 211) :: (u 212) :: (u 213) :: (u 214) :: (u 215) :: (u 216) :: (u 217) :: (u 218) :: (u 219) :: (u 220) :: [] : List Value).toArray, defers := [] }
def fr38c (mb n : Nat) (p : Int) (cb : Nat) (qv : Value) (k : Nat) (a : Option Addr) (L cap j : Nat) (u : Nat → Value) : Act :=
  { tmps := ((.pointer (some ⟨mb, 0, none⟩)) :: (.int .u32 p) :: (u 2) :: (u 3) :: (.pointer (some ⟨n, 0, none⟩)) :: (.pointer (some ⟨n + 1, 0, none⟩)) :: (u 6) :: (u 7) :: (.pointer (some ⟨cb, 0, none⟩)) :: (.int .i64 (k : Nat)) :: (.slice a L cap) :: (u 11) :: (u 12) :: (u 13) :: (u 14) :: (u 15) :: (u 16) :: (u 17) :: (u 18) :: (u 19) :: (u 20) :: (u 21) :: (u 22) :: (u 23) :: (u 24) :: (u 25) :: (u 26) :: (u 27) :: (u 28) :: (u 29) :: (u 30) :: (u 31) :: (u 32) :: (u 33) :: (u 34) :: (u 35) :: (u 36) :: (u 37) :: (u 38) :: (u 39) :: (u 40) :: (u 41) :: (u 42) :: (u 43) :: (u 44) :: (u 45) :: (u 46) :: (u 47) :: (u 48) :: (u 49) :: (u 50) :: (u 51) :: (u 52) :: (u 53) :: (u 54) :: (u 55) :: qv :: (.int .i64 (k : Nat)) :: (u 58) :: (u 59) :: (u 60) :: (.slice a L cap) :: (.int .i64 (L : Nat)) :: (.int .i64 (j : Nat)) :: (u 64) :: (u 65) :: (u 66) :: (u 67) :: (u 68) :: (u 69) :: (u 70) :: (u 71) :: (u 72) :: (u 73) :: (u 74) :: (u 75) :: (u 76) :: (u 77) :: (u 78) :: (u 79) :: (u 80) :: (u 81) :: (u 82) :: (u 83) :: (u 84) :: (u 85) :: (u 86) :: (u 87) :: (u 88) :: (u 89) :: (u 90) :: (u 91) :: (u 92) :: (u 93) :: (u 94) :: (u 95) :: (u 96) :: (u 97) :: (u 98) :: (u 99) :: (u 100) :: (u 101) :: (u 102) :: (u 103) :: (u 104) :: (u 105) :: (u 106) :: (u 107) :: (u 108) :: (u 109) :: (u 110) :: (u 111) :: (u 112) :: (u 113) :: (u 114) :: (u 115) :: (u 116) :: (u 117) :: (u 118) :: (u 119) :: (u 120) :: (u 121) :: (u 122) :: (u 123) :: (u 124) :: (u 125) :: (u 126) :: (u 127) :: (u 128) :: (u 129) :: (u 130) :: (u 131) :: (u 132) :: (u 133) :: (u 134) :: (u 135) :: (u 136) :: (u 137) :: (u 138) :: (u 139) :: (u 140) :: (u 141) :: (u 142) :: (u 143) :: (u 144) :: (u 145) :: (u 146) :: (u 147) :: (u 148) :: (u 149) :: (u 150) :: (u 151) :: (u 152) :: (u 153) :: (u 154) :: (u 155) :: (u 156) :: (u 157) :: (u 158) :: (u 159) :: (u 160) :: (u 161) :: (u 162) :: (u 163) :: (u 164) :: (u 165) :: (u 166) :: (u 167) :: (u 168) :: (u 169) :: (u 170) :: (u 171) :: (u 172) :: (u 173) :: (u 174) :: (u 175) :: (u 176) :: (u 177) :: (u 178) :: (u 179) :: (u 180) :: (u 181) :: (u 182) :: (u 183) :: (u 184) :: (u 185) :: (u 186) :: (u 187) :: (u 188) :: (u 189) :: (u 190) :: (u 191) :: (u 192) :: (u 193) :: (u 194) :: (u 195) :: (u 196) :: (u 197) :: (u 198) :: (u 199) :: (u 200) :: (u 201) :: (u 202) :: (u 203) :: (u 204) :: (u 205) :: (u 206) :: (u 207) :: (u 208) :: (u 209) :: (u 210) :: (u 211) :: (u 212) :: (u 213) :: (u 214) :: (u 215) :: (u 216) :: (u 217) :: (u 218) :: (u 219) :: (u 220) :: [] : List Value).toArray, defers := [] }

set_option maxRecDepth 100000 in
set_option maxHeartbeats 4000000 in
theorem lp38_2i {N : Int} {A : Nat} {σ : SS} (hX : XInv N A σ) {own : Nat → Nat} {w0 : World} {mb n cb : Nat} {M : MA} {tb : Nat → Int → Nat} (p : Int) (qv : Value) (k : Nat) (hk : k < 3) (f : Nat → Value) (hfk : f k = .pointer none) (hM : MR own (put w0 cb (encC f) 151) mb M tb σ) (hcb : own cb = 50) (hcl : cb < w0.heap.size) (a : Option Addr) (L cap : Nat)
    (hL : ((σ.x.mp k).iss - (σ.x.mp k).rt).toNat = L) (hv : M.q k = .slice a L cap) (u0 : Nat → Value) (Q : Exit → Act → World → Prop)
    (hQ : ∀ u, Q (.exit 4) (fr38b mb n p cb qv k u) (put w0 cb (encC (upd f k (candV tb σ.x k))) 151)) (body : Code) (hbody : body = (loopsOf (((Tryd.f38.body.map loopsOf).getD []).getD 1 .skip)).getD 0 .skip) :
    (Code.loop body).wp Tryd.prog Q (fr38c mb n p cb qv k a L cap 0 u0) (put w0 cb (encC f) 151) := by
  subst hbody
  conv => arg 2; arg 1; whnf
  have hcn := hX.cnt k hk
  refine wp_loop (fun act wr => ∃ (u : Nat → Value) (j : Nat), act = fr38c mb n p cb qv k a L cap j u ∧ j ≤ L ∧ Hid ((σ.x.mp k).rt + (j : Nat) ≤ (σ.x.mp k).gr) ∧ wr = put w0 cb (encC f) 151) (fun act _ => L - (intOf (act.tmps.getD 63 undef)).toNat) ?start ?round
  case start => exact ⟨u0, 0, rfl, by omega, by unfold Hid; omega, rfl⟩
  case round =>
    rintro a0 wr ⟨u, j, rfl, hj, hr, rfl⟩
    obtain ⟨KR, hKR⟩ : ∃ KR : Act → World → Prop, KR = fun a' w' => ((fun act wr => ∃ (u : Nat → Value) (j : Nat), act = fr38c mb n p cb qv k a L cap j u ∧ j ≤ L ∧ Hid ((σ.x.mp k).rt + (j : Nat) ≤ (σ.x.mp k).gr) ∧ wr = put w0 cb (encC f) 151) a' w' ∧ L - (intOf (a'.tmps.getD 63 undef)).toNat < L - (intOf ((fr38c mb n p cb qv k a L cap j u).tmps.getD 63 undef)).toNat) := ⟨_, rfl⟩
    have HKR : Hid (∀ (act : Act), act = fr38c mb n p cb qv k a L cap (j + 1) (fun i => act.tmps.getD i undef) → j < L → (σ.x.mp k).rt + (j : Nat) < (σ.x.mp k).gr → KR act (put w0 cb (encC f) 151)) := fun act e hjl hl => by
      rw [hKR]
      refine ⟨⟨_, j + 1, e, hjl, by unfold Hid; omega, rfl⟩, ?_⟩
      have e1 : act.tmps.getD 63 undef = .int .i64 ((j + 1 : Nat) : Int) := by rw [e]; rfl
      have e2 : (fr38c mb n p cb qv k a L cap j u).tmps.getD 63 undef = .int .i64 ((j : Nat) : Int) := rfl
      simp only [e1, e2, intOf]
      omega
    rw [← hKR]
    clear hKR
    have HQ := hid_of hQ
    have HV := hid_of hv
    have hL4 : L ≤ 4 := by omega
    have hki : ((k : Nat) : Int) < 3 := by omega
    have hadd : IntKind.i64.wrap (((j : Nat) : Int) + 1) = (j : Nat) + 1 := by simp [IntKind.wrap, IntKind.bits, IntKind.signed]; omega
    by_cases hjL : j < L
    · have hji : ((j : Nat) : Int) < (L : Nat) := by omega
      have hS := hM.queue k hk
      rw [hL] at hS
      obtain ⟨b, off, cap', hv', hc1, hbl⟩ := hS.form (by omega)
      rw [hv] at hv'
      injection hv' with e1 e2 e3
      subst e1; subst e3
      have hob : own b = 31 + k := hM.oq k hk b (by rw [hv]; rfl)
      have hbc : b ≠ cb := fun e => by rw [e, hcb] at hob; omega
      have hql : (qrow tb k (σ.x.mp k).rt L).length = L := by simp [qrow]
      have hcell := hS.cell hv j (by rw [hql]; exact hjL)
      have hxj : (qrow tb k (σ.x.mp k).rt L)[j]? = some (.pointer (some ⟨tb k ((σ.x.mp k).rt + (j : Nat)), 0, none⟩)) := by
        unfold qrow; rw [List.getElem?_map, List.getElem?_range hjL]; rfl
      rw [hxj, put_cell_ne _ _ _ _ _ _ _ hbc] at hcell
      obtain ⟨T, hT⟩ : ∃ T, tb k ((σ.x.mp k).rt + (j : Nat)) = T := ⟨_, rfl⟩
      have htx := hM.tx k hk ((σ.x.mp k).rt + (j : Nat)) (by omega) (by omega)
      have hot := hM.otx k hk ((σ.x.mp k).rt + (j : Nat)) (by omega) (by omega)
      rw [hT] at htx hcell hot
      have hTc : T ≠ cb := fun e => by rw [e, hcb] at hot; omega
      have hgr := htx.cell 5
      rw [tg_5, put_cell_ne _ _ _ _ _ _ _ hTc] at hgr
      have hlt : Hid ((σ.x.mp k).rt + (j : Nat) < (σ.x.mp k).iss) := by unfold Hid; omega
      have HT := hid_of hT
      have HFK := hid_of hfk
      clear hT hQ hv hS htx hfk hL hM hxj hql
      by_cases hg : (σ.x.mp k).rt + (j : Nat) < (σ.x.mp k).gr
      · have hgr' : w0.cell? ⟨T, 5, none⟩ = some (.bool true) := by rw [hgr]; show some (Value.bool (decide _)) = _; rw [decide_eq_true hg]
        have HG := hid_of hg
        clear hg hr hgr
        unfold fr38c
        go_wp2_with fail
        refine HKR.out _ ?_ hjL HG.out
        kernel_rfl
      · have hgr' : w0.cell? ⟨T, 5, none⟩ = some (.bool false) := by rw [hgr]; show some (Value.bool (decide _)) = _; rw [decide_eq_false hg]
        have HC : Hid (candV tb σ.x k = .pointer (some ⟨T, 0, none⟩)) := by
          have h9 := hr.out
          have h8 : (σ.x.mp k).gr = (σ.x.mp k).rt + (j : Nat) := by omega
          unfold Hid candV
          rw [if_pos (by have := hlt.out; omega), h8, HT.out]
        clear hg hr hgr
        rw [HC.out] at HQ
        unfold fr38c
        go_wp2_with fail
        exact q_of (Q := fun a => Q (.exit 4) a (put w0 cb (encC (upd f k (.pointer (some ⟨T, 0, none⟩)))) 151)) (F := fr38b mb n p cb qv k) (fun u => HQ.out u) _ (by kernel_rfl)
    · have hji : ¬ ((j : Nat) : Int) < (L : Nat) := by omega
      have HC : Hid (upd f k (candV tb σ.x k) = f) := by
        have h9 := hr.out
        unfold Hid candV
        rw [if_neg (by omega)]
        exact (congrArg (upd f k) hfk.symm).trans (upd_id f k)
      rw [HC.out] at HQ
      clear hr hQ hv hfk hL hM
      unfold fr38c
      go_wp2_with fail
      exact q_of (Q := fun a => Q (.exit 4) a (put w0 cb (encC f) 151)) (F := fr38b mb n p cb qv k) (fun u => HQ.out u) _ (by kernel_rfl)
/-- The candidates of the masters below k. -/
def candK (tb : Nat → Int → Nat) (x : XS) (k : Nat) : Nat → Value := fun m => if m < k then candV tb x m else .pointer none
theorem candK_succ (tb : Nat → Int → Nat) (x : XS) (k : Nat) : upd (candK tb x k) k (candV tb x k) = candK tb x (k + 1) := by
  funext m
  unfold candK
  by_cases e : m = k
  · rw [e, upd_same, if_pos (by omega)]
  · rw [upd_ne _ _ _ _ e]
    by_cases h : m < k
    · rw [if_pos h, if_pos (by omega)]
    · rw [if_neg h, if_neg (by omega)]
theorem candK_at (tb : Nat → Int → Nat) (x : XS) (k : Nat) : candK tb x k k = .pointer none := if_neg (by omega)
set_option maxRecDepth 100000 in
set_option maxHeartbeats 4000000 in
theorem lp38_2 {N : Int} {A : Nat} {σ : SS} (hX : XInv N A σ) {own : Nat → Nat} {w0 : World} {mb n cb : Nat} {M : MA} {tb : Nat → Int → Nat} (p : Int) (qv : Value) (hix : ∀ m, m < 3 → ∀ w, (Instr.index 96 qv (.int .i64 (m : Nat))).run Tryd.prog w = .ok (M.q m) w)
    (hM : ∀ f, MR own (put w0 cb (encC f) 151) mb M tb σ) (hcb : own cb = 50) (hcl : cb < w0.heap.size) (u0 : Nat → Value) (Q : Exit → Act → World → Prop)
    (hQ : ∀ u, Q (.exit 2) (fr38b mb n p cb qv 3 u) (put w0 cb (encC (candK tb σ.x 3)) 151)) (body : Code) (hbody : body = ((Tryd.f38.body.map loopsOf).getD []).getD 1 .skip) :
    (Code.loop body).wp Tryd.prog Q (fr38b mb n p cb qv 0 u0) (put w0 cb (encC (candK tb σ.x 0)) 151) := by
  subst hbody
  conv => arg 2; arg 1; whnf
  refine wp_loop (fun act wr => ∃ (u : Nat → Value) (k : Nat), act = fr38b mb n p cb qv k u ∧ k ≤ 3 ∧ wr = put w0 cb (encC (candK tb σ.x k)) 151) (fun act _ => 3 - (intOf (act.tmps.getD 57 undef)).toNat) ?start ?round
  case start => exact ⟨u0, 0, rfl, by omega, rfl⟩
  case round =>
    rintro a0 wr ⟨u, k, rfl, hk, rfl⟩
    obtain ⟨KR, hKR⟩ : ∃ KR : Act → World → Prop, KR = fun a' w' => ((fun act wr => ∃ (u : Nat → Value) (k : Nat), act = fr38b mb n p cb qv k u ∧ k ≤ 3 ∧ wr = put w0 cb (encC (candK tb σ.x k)) 151) a' w' ∧ 3 - (intOf (a'.tmps.getD 57 undef)).toNat < 3 - (intOf ((fr38b mb n p cb qv k u).tmps.getD 57 undef)).toNat) := ⟨_, rfl⟩
    have HKR : Hid (∀ (act : Act), act = fr38b mb n p cb qv (k + 1) (fun i => act.tmps.getD i undef) → k < 3 → KR act (put w0 cb (encC (candK tb σ.x (k + 1))) 151)) := fun act e hk3 => by
      rw [hKR]
      refine ⟨⟨_, k + 1, e, hk3, rfl⟩, ?_⟩
      have e1 : act.tmps.getD 57 undef = .int .i64 ((k + 1 : Nat) : Int) := by rw [e]; rfl
      have e2 : (fr38b mb n p cb qv k u).tmps.getD 57 undef = .int .i64 ((k : Nat) : Int) := rfl
      simp only [e1, e2, intOf]
      omega
    rw [← hKR]
    clear hKR
    have HQ := hid_of hQ
    have HM := hid_of hM
    by_cases hk3 : k < 3
    · have hki : ((k : Nat) : Int) < 3 := by omega
      have hadd : IntKind.i64.wrap (((k : Nat) : Int) + 1) = (k : Nat) + 1 := by simp [IntKind.wrap, IntKind.bits, IntKind.signed]; omega
      have hixk := hix k hk3
      obtain ⟨L, hL⟩ : ∃ L, ((σ.x.mp k).iss - (σ.x.mp k).rt).toNat = L := ⟨_, rfl⟩
      have hS := (hM (candK tb σ.x k)).queue k hk3
      rw [hL] at hS
      obtain ⟨a, cap, hv⟩ := hS.form'
      rw [hv] at hixk
      have HL := hid_of hL
      have HV := hid_of hv
      have HCK := hid_of (candK_succ tb σ.x k)
      clear hix hQ hM hL hv hS
      unfold fr38b
      obtain ⟨F, hF⟩ : ∃ F, candK tb σ.x k = F := ⟨_, rfl⟩
      have HF := hid_of hF
      rw [hF]
      clear hF
      go_wp2_with fail
      rw [← HF.out]
      refine q_of (Q := fun a => (Code.loop _).wp Tryd.prog _ a _) (F := fr38c mb n p cb qv k a L cap 0) (fun u => lp38_2i hX p qv k hk3 (candK tb σ.x k) (candK_at tb σ.x k) (HM.out _) hcb hcl a L cap HL.out HV.out u _ ?_ _ (by kernel_rfl)) _ (by kernel_rfl)
      rw [HCK.out]
      intro u
      unfold fr38b
      obtain ⟨F2, hF2⟩ : ∃ F, candK tb σ.x (k + 1) = F := ⟨_, rfl⟩
      rw [hF2] at HKR ⊢
      clear hF2 HCK
      go_wp2_with fail
      exact HKR.out _ (by kernel_rfl) hk3
    · have hki : ¬ ((k : Nat) : Int) < 3 := by omega
      have HE : k = 3 := by omega
      subst HE
      clear hQ hix hM
      obtain ⟨F, hF⟩ : ∃ F, candK tb σ.x 3 = F := ⟨_, rfl⟩
      rw [hF] at HQ ⊢
      clear hF
      unfold fr38b
      go_wp2_with fail
      exact q_of (Q := fun a => Q (.exit 2) a (put w0 cb (encC F) 151)) (F := fr38b mb n p cb qv 3) (fun u => HQ.out u) _ (by kernel_rfl)
end Go.Proofs.Qxb6500750aDoor
