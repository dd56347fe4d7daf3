import Derived.Test.Qxb6500750aDoorMse
import Derived.BigQuiet
namespace Go.Proofs.Qxb6500750aDoor
open Go.RowKit
attribute [local go_sem] put_size put_cell_same put_cell_ne put_frozen_same put_frozen_ne put_setCell_same put_setCell_ne put_drew
attribute [local go_sem] drewN_setCell drewN_alloc drewN_put upd_same upd_upd
attribute [local go_sem] mg_q mg_ac mg_tk mg_ba mg_wm mg_pv mg_av mg_sv mg_lf mg_en mg_rd mg_tu mg_is ms_q ms_ac ms_tk ms_ba ms_wm ms_pv ms_av ms_sv ms_lf ms_en ms_rd ms_tu ms_is
attribute [local go_sem] tg_0 tg_1 tg_2 tg_3 tg_4 tg_5 tg_6 tg_7 tg_8 tg_9 tg_10 tg_11 tg_12 tg_13 ts_5 ts_6 ts_7 ts_10 ts_11 ts_12 ts_13
attribute [local go_sem] rg_rs rg_rp rs_rs rs_rp
/-! ### The machine's conclude -/
set_option maxRecDepth 100000 in
set_option maxHeartbeats 4000000 in
/-- The end of a sending whose transaction was dropped. -/
theorem conclude_gone (mb b t rb : Nat) (ht : t < 7) (M : MA) (x : TX) (w : World) (hB : Blk w mb (encM M) 104) (hx : Blk w b (encT x) 148) (hsv : (M.tg t).sv = .pointer (some ⟨b, 0, none⟩)) (hd : x.dr = true) :
    Calls Tryd.prog 52 #[.pointer (some ⟨mb, 0, none⟩), .int .i64 (t : Nat), .pointer (some ⟨rb, 0, none⟩)] w fun e w' => e = .returned (.tuple #[]) ∧ w' = put w mb (encM { M with tg := upd M.tg t { M.tg t with sv := .pointer none } }) 104 := by
  have hbm : b ≠ mb := hx.neT hB (by decide)
  have c7 : w.cell? ⟨b, 7, none⟩ = some (.bool true) := by rw [hx.cell, tg_7, hd]
  have hti : ((t : Nat) : Int) < 7 := by omega
  obtain ⟨w0, rfl, hl0⟩ := hB.out
  rw [put_cell_ne _ _ _ _ _ _ _ hbm] at c7
  clear hB hx
  go_enter Tryd.func52, Tryd.ntmps52
  go_wp2_with fail
  refine bodyPost_ret (v := .tuple #[]) (results_none rfl _ _ _) rfl ?_
  rw [put_put]
  exact ⟨rfl, rfl⟩
/-- May the machine send again? -/
def againM (M : MA) (t : Nat) (x : TX) : Bool := mayRep x.rq.w (M.tg t).en && decide (x.an.re < 3) && !(M.tg t).is && !(M.ba x.m.toNat)
def fr52a (mb t rb b : Nat) (c : Bool) (u : Nat → Value) : Act :=
  { tmps := ((.pointer (some ⟨mb, 0, none⟩)) :: (.int .i64 (t : Nat)) :: (.pointer (some ⟨rb, 0, none⟩)) :: (u 3) :: (u 4) :: (u 5) :: (.pointer (some ⟨mb, 12 + t * 9, none⟩)) :: (.pointer (some ⟨b, 0, none⟩)) :: (.bool c) :: (u 9) :: (u 10) :: (u 11) :: (u 12) :: (u 13) :: (u 14) :: (u 15) :: (u 16) :: (u 17) :: (u 18) :: (u 19) :: (u 20) :: (u 21) :: (u 22) :: (u 23) :: (u 24) :: (u 25) :: (u 26) :: (u 27) :: (u 28) :: (u 29) :: (u 30) :: (u 31) :: (u 32) :: (u 33) :: (u 34) :: (u 35) :: (u 36) :: (u 37) :: (u 38) :: (u 39) :: (u 40) :: (u 41) :: (u 42) :: (u 43) :: (u 44) :: (u 45) :: (u 46) :: (u 47) :: (u 48) :: (u 49) :: (u 50) :: (u 51) :: (u 52) :: (u 53) :: (u 54) :: (u 55) :: (u 56) :: (u 57) :: (u 58) :: (u 59) :: (u 60) :: (u 61) :: (u 62) :: (u 63) :: (u 64) :: (u 65) :: (u 66) :: (u 67) :: (u 68) :: (u 69) :: (u 70) :: (u 71) :: (u 72) :: (u 73) :: (u 74) :: (u 75) :: (u 76) :: (u 77) :: (u 78) :: (u 79) :: (u 80) :: (u 81) :: (u 82) :: (u 83) :: (u 84) :: (u 85) :: (u 86) :: (u 87) :: (u 88) :: (u 89) :: (u 90) :: (u 91) :: (u 92) :: (u 93) :: (u 94) :: (u 95) :: (u 96) :: (u 97) :: (u 98) :: (u 99) :: (u 100) :: (u 101) :: (u 102) :: (u 103) :: (u 104) :: (u 105) :: (u 106) :: (u 107) :: (u 108) :: (u 109) :: (u 110) :: (u 111) :: (u 112) :: (u 113) :: (u 114) :: (u 115) :: (u 116) :: (u 117) :: (u 118) :: (u 119) :: (u 120) :: (u 121) :: (u 122) :: (u 123) :: (u 124) :: (u 125) :: (u 126) :: (u 127) :: (u 128) :: (u 129) :: (u 130) :: (u 131) :: (u 132) :: (u 133) :: (u 134) :: (u 135) :: (u 136) :: (u 137) :: (u 138) :: (u 139) :: (u 140) :: (u 141) :: (u 142) :: (u 143) :: (u 144) :: (u 145) :: (u 146) :: (u 147) :: (u 148) :: (u 149) :: (u 150) :: (u 151) :: (u 152) :: (u 153) :: (u 154) :: (u 155) :: (u 156) :: (u 157) :: (u 158) :: (u 159) :: (u 160) :: (u 161) :: (u 162) :: [] : List Value).toArray, defers := [] }
def fr52 (mb t rb b : Nat) (c : Bool) (u : Nat → Value) : Act :=
  { tmps := ((.pointer (some ⟨mb, 0, none⟩)) :: (.int .i64 (t : Nat)) :: (.pointer (some ⟨rb, 0, none⟩)) :: (u 3) :: (u 4) :: (u 5) :: (.pointer (some ⟨mb, 12 + t * 9, none⟩)) :: (.pointer (some ⟨b, 0, none⟩)) :: (u 8) :: (u 9) :: (u 10) :: (u 11) :: (u 12) :: (u 13) :: (u 14) :: (u 15) :: (u 16) :: (u 17) :: (u 18) :: (u 19) :: (u 20) :: (u 21) :: (u 22) :: (u 23) :: (u 24) :: (u 25) :: (u 26) :: (u 27) :: (u 28) :: (u 29) :: (u 30) :: (u 31) :: (u 32) :: (u 33) :: (u 34) :: (u 35) :: (u 36) :: (u 37) :: (u 38) :: (u 39) :: (u 40) :: (u 41) :: (u 42) :: (u 43) :: (u 44) :: (u 45) :: (u 46) :: (u 47) :: (u 48) :: (u 49) :: (u 50) :: (u 51) :: (u 52) :: (u 53) :: (u 54) :: (u 55) :: (u 56) :: (u 57) :: (u 58) :: (u 59) :: (u 60) :: (u 61) :: (u 62) :: (u 63) :: (u 64) :: (u 65) :: (u 66) :: (u 67) :: (u 68) :: (u 69) :: (u 70) :: (u 71) :: (u 72) :: (u 73) :: (u 74) :: (u 75) :: (u 76) :: (u 77) :: (u 78) :: (.bool c) :: (u 80) :: (u 81) :: (u 82) :: (u 83) :: (u 84) :: (u 85) :: (u 86) :: (u 87) :: (u 88) :: (u 89) :: (u 90) :: (u 91) :: (u 92) :: (u 93) :: (u 94) :: (u 95) :: (u 96) :: (u 97) :: (u 98) :: (u 99) :: (u 100) :: (u 101) :: (u 102) :: (u 103) :: (u 104) :: (u 105) :: (u 106) :: (u 107) :: (u 108) :: (u 109) :: (u 110) :: (u 111) :: (u 112) :: (u 113) :: (u 114) :: (u 115) :: (u 116) :: (u 117) :: (u 118) :: (u 119) :: (u 120) :: (u 121) :: (u 122) :: (u 123) :: (u 124) :: (u 125) :: (u 126) :: (u 127) :: (u 128) :: (u 129) :: (u 130) :: (u 131) :: (u 132) :: (u 133) :: (u 134) :: (u 135) :: (u 136) :: (u 137) :: (u 138) :: (u 139) :: (u 140) :: (u 141) :: (u 142) :: (u 143) :: (u 144) :: (u 145) :: (u 146) :: (u 147) :: (u 148) :: (u 149) :: (u 150) :: (u 151) :: (u 152) :: (u 153) :: (u 154) :: (u 155) :: (u 156) :: (u 157) :: (u 158) :: (u 159) :: (u 160) :: (u 161) :: (u 162) :: [] : List Value).toArray, defers := [] }
def stM (t : Nat) (en : Int) : Int := if t = 6 then 2 else if en = 0 then 0 else if en = 1 then 1 else 3
def landM (t : Nat) (g : TG) (x : TX) : TX := { x with dn := true, an := { x.an with ca := g.en, st := stM t g.en, da := if t ≠ 6 ∧ g.en = 0 then g.rd else x.an.da } }
structure LandPost (w w' : World) (mb b t rb : Nat) (M : MA) (x : TX) (ρ : RepD) : Prop where
  mch : Blk w' mb (encM { M with tg := upd M.tg t { M.tg t with sv := .pointer none } }) 104
  tx : Blk w' b (encT (landM t (M.tg t) x)) 148
  rep : Blk w' rb (encR (if stM t (M.tg t).en = 3 then { ρ with rp := upd ρ.rp t true } else ρ)) 41
  os : w'.os = w.os
  tape : w'.tape = w.tape
  output : w'.output = w.output
  size : w'.heap.size = w.heap.size
  block : ∀ k, k ≠ mb → k ≠ b → k ≠ rb → w'.heap[k]? = w.heap[k]?
theorem bitsV_add {f : Nat → Bool} {t : Nat} (ht : t < 7) (h : f t = false) : bitsV (upd f t true) = bitsV f + 2 ^ t := by
  unfold bitsV b2i upd
  obtain rfl | rfl | rfl | rfl | rfl | rfl | rfl : t = 0 ∨ t = 1 ∨ t = 2 ∨ t = 3 ∨ t = 4 ∨ t = 5 ∨ t = 6 := by omega
  all_goals (simp [h]; try omega)
set_option maxRecDepth 100000 in
set_option maxHeartbeats 4000000 in
theorem conclude_land (mb b t rb : Nat) (ht : t < 7) (M : MA) (x : TX) (ρ : RepD) (w : World) (hB : Blk w mb (encM M) 104) (hx : Blk w b (encT x) 148) (hR : Blk w rb (encR ρ) 41) (hsv : (M.tg t).sv = .pointer (some ⟨b, 0, none⟩)) (hd : x.dr = false) (hen : 0 ≤ (M.tg t).en ∧ (M.tg t).en < 5) (hm : 0 ≤ x.m ∧ x.m < 3) (hrp : ρ.rp t = false) (hag : againM M t x = false) :
    Calls Tryd.prog 52 #[.pointer (some ⟨mb, 0, none⟩), .int .i64 (t : Nat), .pointer (some ⟨rb, 0, none⟩)] w fun e w' => e = .returned (.tuple #[]) ∧ LandPost w w' mb b t rb M x ρ := by
  have hbm : b ≠ mb := hx.neT hB (by decide)
  have hrm : rb ≠ mb := hR.neT hB (by decide)
  have hrb : rb ≠ b := hR.neT hx (by decide)
  have hti : ((t : Nat) : Int) < 7 := by omega
  obtain ⟨m, hme⟩ : ∃ m : Nat, x.m = (m : Nat) := Int.eq_ofNat_of_zero_le hm.1
  have hm3 : m < 3 := by omega
  have hmi : ((m : Nat) : Int) < 3 := by omega
  obtain ⟨en, hene⟩ : ∃ en, (M.tg t).en = en := ⟨_, rfl⟩
  have he5 : en = 0 ∨ en = 1 ∨ en = 2 ∨ en = 3 ∨ en = 4 := by omega
  have hag' := hag
  unfold againM at hag'
  rw [hene, hme, Int.toNat_natCast] at hag'
  obtain ⟨wv, hwv⟩ : ∃ wv, x.rq.w = wv := ⟨_, rfl⟩
  obtain ⟨re, hre⟩ : ∃ re, x.an.re = re := ⟨_, rfl⟩
  obtain ⟨is, his⟩ : ∃ is, (M.tg t).is = is := ⟨_, rfl⟩
  obtain ⟨ba, hba⟩ : ∃ ba, M.ba m = ba := ⟨_, rfl⟩
  have c3 : w.cell? ⟨mb, 12 + t * 9 + 3, none⟩ = some (.pointer (some ⟨b, 0, none⟩)) := by rw [hB.cell, mg_sv _ _ ht, hsv]
  have c5 : w.cell? ⟨mb, 12 + t * 9 + 5, none⟩ = some (.int .u8 en) := by rw [hB.cell, mg_en _ _ ht, hene]
  have c8 : w.cell? ⟨mb, 12 + t * 9 + 8, none⟩ = some (.bool is) := by rw [hB.cell, mg_is _ _ ht, his]
  have c9 : w.cell? ⟨mb, 9 + m, none⟩ = some (.bool ba) := by rw [hB.cell, mg_ba _ _ hm3, hba]
  have d0 : w.cell? ⟨b, 0, none⟩ = some (.int .i64 (m : Nat)) := by rw [hx.cell, tg_0, hme]
  have d7 : w.cell? ⟨b, 7, none⟩ = some (.bool false) := by rw [hx.cell, tg_7, hd]
  have d2 : w.cell? ⟨b, 2, none⟩ = some (.bool wv) := by rw [hx.cell, tg_2, hwv]
  have d12 : w.cell? ⟨b, 12, none⟩ = some (.int .u8 re) := by rw [hx.cell, tg_12, hre]
  rw [hwv, hre, his, hba] at hag'
  have HAG := hid_of hag'
  have HE5 := hid_of he5
  have HB := hid_of hB
  have HX := hid_of hx
  have HR := hid_of hR
  have HSV := hid_of hsv
  have HD := hid_of hd
  have HEN := hid_of hene
  have HRE := hid_of hre
  have HRP := hid_of hrp
  clear hag hag' he5 hB hx hR hsv hd hwv his hba hme hene hre hrp
  go_enter Tryd.func52, Tryd.ntmps52
  go_upto_region 4 with fail
  refine cutM (Km := fun act wc => ∃ (u : Nat → Value), act = fr52a mb t rb b (mayRep wv en) u ∧ wc = w) ?rest ?first
  case first =>
    obtain ⟨KR, hKR⟩ : ∃ KR : Act → World → Prop, KR = fun act wc => ∃ (u : Nat → Value), act = fr52a mb t rb b (mayRep wv en) u ∧ wc = w := ⟨_, rfl⟩
    have HKR : Hid (∀ (act : Act), act = fr52a mb t rb b (mayRep wv en) (fun i => act.tmps.getD i undef) → KR act w) := fun act e1 => by rw [hKR]; exact ⟨_, e1, rfl⟩
    rw [← hKR]
    clear hKR HAG
    rcases HE5.out with rfl | rfl | rfl | rfl | rfl <;> rcases wv
    all_goals
      refine wp_region_list ?_
      go_wp2_with fail
      exact HKR.out _ (by kernel_rfl)
  case rest =>
    rintro act wc ⟨u, rfl, hwc⟩
    obtain rfl := hwc.symm
    unfold fr52a
    go_upto_region 5 with fail
    refine cutM (Km := fun act wc => ∃ (u : Nat → Value) (n : Nat), act = fr52 mb t rb b false u ∧ wc = w.drewN n) ?rest2 ?first2
    case first2 =>
      obtain ⟨KR, hKR⟩ : ∃ KR : Act → World → Prop, KR = fun act wc => ∃ (u : Nat → Value) (n : Nat), act = fr52 mb t rb b false u ∧ wc = w.drewN n := ⟨_, rfl⟩
      have HKR : Hid (∀ (act : Act) (n : Nat), act = fr52 mb t rb b false (fun i => act.tmps.getD i undef) → KR act (w.drewN n)) := fun act n e1 => by rw [hKR]; exact ⟨_, n, e1, rfl⟩
      rw [← hKR]
      clear hKR
      obtain ⟨mr, hmr⟩ : ∃ mr, mayRep wv en = mr := ⟨_, rfl⟩
      rw [hmr] at HAG ⊢
      have hag := HAG.out
      clear HAG hmr
      rcases mr
      · clear hag
        go_quiet (fail)
        exact HKR.out _ _ (by kernel_rfl)
      · by_cases h3 : re < 3
        · have h3' : decide (re < 3) = true := decide_eq_true h3
          rw [h3'] at hag
          rcases is
          · rcases ba
            · cases hag
            · clear hag
              go_quiet (fail)
              exact HKR.out _ _ (by kernel_rfl)
          · clear hag
            go_quiet (fail)
            exact HKR.out _ _ (by kernel_rfl)
        · have h3' : decide (re < 3) = false := decide_eq_false h3
          clear hag
          go_quiet (fail)
          exact HKR.out _ _ (by kernel_rfl)
    case rest2 =>
      rintro act wc ⟨u, n, rfl, rfl⟩
      clear c3 c5 c8 c9 d0 d7 d2 d12 HAG
      obtain ⟨w0, rfl, hl0⟩ := HB.out.out
      have hx0 : Blk w0 b (encT x) 148 := (put_heap_ne _ _ _ _ _ hbm).symm.trans HX.out
      obtain ⟨w1, rfl, hl1⟩ := hx0.out
      have hR0 : Blk w1 rb (encR ρ) 41 := ((put_heap_ne _ _ _ _ _ hrb).symm.trans ((put_heap_ne _ _ _ _ _ hrm).symm.trans HR.out))
      obtain ⟨w2, rfl, hl2⟩ := hR0.out
      have hbits : (bitsV ρ.rp + 2 ^ t) % 256 = bitsV (upd ρ.rp t true) := by
        rw [← bitsV_add ht HRP.out]
        have := bitsV_range (upd ρ.rp t true); omega
      simp only [put_size] at hl0 hl1
      have hpow : (2 ^ t : Int) % 256 = 2 ^ t := by
        obtain rfl | rfl | rfl | rfl | rfl | rfl | rfl : t = 0 ∨ t = 1 ∨ t = 2 ∨ t = 3 ∨ t = 4 ∨ t = 5 ∨ t = 6 := by omega
        all_goals decide
      clear hx0 hR0
      have H6 : Hid (t = 6 ∨ t ≠ 6) := by unfold Hid; omega
      have hen' := HEN.out
      have HLP : Hid (∀ (M' : MA) (x' : TX) (ρ' : RepD) (n : Nat), M' = { M with tg := upd M.tg t { M.tg t with sv := .pointer none } } → x' = landM t (M.tg t) x → ρ' = (if stM t en = 3 then { ρ with rp := upd ρ.rp t true } else ρ) →
          LandPost (put (put (put w2 rb (encR ρ) 41) b (encT x) 148) mb (encM M) 104) ((put (put (put w2 rb (encR ρ') 41) b (encT x') 148) mb (encM M') 104).drewN n) mb b t rb M x ρ) := by
        intro M' x' ρ' n e1 e2 e3
        subst e1; subst e2; subst e3
        refine ⟨Blk.put_same (by simp only [put_size]; exact hl0), ?_, ?_, rfl, rfl, rfl, by simp [put_size], fun k h1 h2 h3 => ?_⟩
        · exact (put_heap_ne _ _ _ _ _ hbm).trans (Blk.put_same (by simp only [put_size]; exact hl1))
        · rw [hen']
          exact (put_heap_ne _ _ _ _ _ hrm).trans ((put_heap_ne _ _ _ _ _ hrb).trans (Blk.put_same hl2))
        · show (put (put (put w2 rb _ 41) b _ 148) mb _ 104).heap[k]? = _
          rw [put_heap_ne _ _ _ _ _ h1, put_heap_ne _ _ _ _ _ h2, put_heap_ne _ _ _ _ _ h3, put_heap_ne _ _ _ _ _ h1, put_heap_ne _ _ _ _ _ h2, put_heap_ne _ _ _ _ _ h3]
      clear hen
      have HEN := hid_of hen'
      rcases H6.out with h6 | h6
      · have e6 : (((t : Nat) : Int) == 6) = true := by simp; omega
        have H6 := hid_of h6
        clear h6
        unfold fr52
        go_wp2_with fail
        refine bodyPost_end (v := .tuple #[]) (results_none rfl _ _ _) rfl ⟨rfl, HLP.out _ _ _ _ (by rw [HEN.out]) ?_ ?_⟩
        · unfold landM stM
          rw [if_pos H6.out, if_neg (fun h => h.1 H6.out), HEN.out]
        · unfold stM
          rw [if_pos H6.out, if_neg (by decide)]
      · have e6 : (((t : Nat) : Int) == 6) = false := by simp; omega
        have H6 := hid_of h6
        clear h6
        unfold fr52
        have HEC : Hid (en = 0 ∨ en = 1 ∨ (en ≠ 0 ∧ en ≠ 1)) := by unfold Hid; omega
        rcases HEC.out with h0 | h1 | ⟨h0, h1⟩
        · have e0 : (en == 0) = true := by rw [h0]; rfl
          have H0 := hid_of h0
          clear h0
          go_wp2_with fail
          refine bodyPost_end (v := .tuple #[]) (results_none rfl _ _ _) rfl ⟨rfl, HLP.out _ _ _ _ (by rw [HEN.out]) ?_ ?_⟩
          · unfold landM stM
            rw [HEN.out, if_neg H6.out, if_pos H0.out, if_pos ⟨H6.out, H0.out⟩]
          · unfold stM
            rw [if_neg H6.out, if_pos H0.out, if_neg (by decide)]
        · have e0 : (en == 0) = false := by rw [h1]; rfl
          have e1 : (en == 1) = true := by rw [h1]; rfl
          have H1 := hid_of h1
          clear h1
          have H0 : Hid (¬ en = 0) := by unfold Hid; rw [H1.out]; decide
          go_wp2_with fail
          refine bodyPost_end (v := .tuple #[]) (results_none rfl _ _ _) rfl ⟨rfl, HLP.out _ _ _ _ (by rw [HEN.out]) ?_ ?_⟩
          · unfold landM stM
            rw [HEN.out, if_neg H6.out, if_neg H0.out, if_pos H1.out, if_neg (fun h => H0.out h.2)]
          · unfold stM
            rw [if_neg H6.out, if_neg H0.out, if_pos H1.out, if_neg (by decide)]
        · have e0 : (en == 0) = false := by simpa using h0
          have e1 : (en == 1) = false := by simpa using h1
          have H1 := hid_of h1
          have H0 := hid_of h0
          clear h1 h0
          go_upto_region 11 with fail
          refine wp_region_qtail 7 mixed (by kernel_rfl) ?_
          simp only [List.take_succ_cons, List.take_zero, List.drop_succ_cons, List.drop_zero]
          repeat (go_big_quiet_step (fail))
          refine wpQuiet_nil ?_
          go_wp2_with fail
          refine bodyPost_end (v := .tuple #[]) (results_none rfl _ _ _) rfl ⟨rfl, HLP.out _ _ _ _ (by rw [HEN.out]) ?_ ?_⟩
          · unfold landM stM
            rw [HEN.out, if_neg H6.out, if_neg H0.out, if_neg H1.out, if_neg (fun h => H0.out h.2)]
          · unfold stM
            rw [if_neg H6.out, if_neg H0.out, if_neg H1.out, if_pos rfl]
theorem MapB.neB {w : World} {b b' : Nat} {f : Int → Int} {cs : Array Value} {T : TypeId} (h : MapB w b f) (h' : Blk w b' cs T) : b ≠ b' := by
  rintro rfl
  obtain ⟨es, c, hb, _⟩ := h
  unfold Blk at h'
  rw [h'] at hb; cases hb
/-- The same transaction, sent once more. -/
def reM (x : TX) : TX := { x with an := { x.an with re := x.an.re + 1 } }
structure AgainMid (w w' : World) (mb b t rb : Nat) (M : MA) (x : TX) (ρ : RepD) : Prop where
  mch : Blk w' mb (encM M) 104
  tx : Blk w' b (encT (reM x)) 148
  rep : Blk w' rb (encR { ρ with rs := upd ρ.rs t true }) 41
  os : w'.os = w.os
  tape : w'.tape = w.tape
  output : w'.output = w.output
  size : w'.heap.size = w.heap.size
  block : ∀ k, k ≠ mb → k ≠ b → k ≠ rb → w'.heap[k]? = w.heap[k]?
set_option maxRecDepth 100000 in
set_option maxHeartbeats 4000000 in
theorem conclude_again (mb b t rb : Nat) (ht6 : t < 6) (M : MA) (x : TX) (ρ : RepD) (qs : PS) (w : World) (hB : Blk w mb (encM M) 104) (hx : Blk w b (encT x) 148) (hR : Blk w rb (encR ρ) 41) (hsv : (M.tg t).sv = .pointer (some ⟨b, 0, none⟩)) (hd : x.dr = false) (hen : 0 ≤ (M.tg t).en ∧ (M.tg t).en < 5) (hm : 0 ≤ x.m ∧ x.m < 3) (hrp : ρ.rs t = false) (hag : againM M t x = true)
    (hP : Sl w (M.tg t).pv 57 2 qs.plans.length (qs.plans.flatMap planRow)) (hA : Sl w (M.tg t).av 54 4 (acts qs).length ((acts qs).flatMap lreqRow)) (hM : MapB w (M.tg t).wm qs.mem)
    (hq : 0 ≤ x.q) (hpl : ∀ p ∈ qs.plans, planOK p) (hn8 : qs.plans.length ≤ 8) (ha : (acts qs).length < 1000000000) (hre0 : 0 ≤ x.an.re) :
    Calls Tryd.prog 52 #[.pointer (some ⟨mb, 0, none⟩), .int .i64 (t : Nat), .pointer (some ⟨rb, 0, none⟩)] w fun e w' => e = .returned (.tuple #[]) ∧ ∃ w1, AgainMid w w1 mb b t rb M x ρ ∧ SendPost w1 w' mb t M qs (reM x) := by
  have ht : t < 7 := by omega
  have HSND : Hid (∀ w1, AgainMid w w1 mb b t rb M x ρ → Calls Tryd.prog 54 #[.pointer (some ⟨mb, 0, none⟩), .int .i64 (t : Nat)] w1 fun e w' => e = .returned (.tuple #[]) ∧ SendPost w1 w' mb t M qs (reM x)) := fun w1 h => by
    refine msend_any mb b t ht6 M (reM x) qs w1 h.mch h.tx hsv ?_ ?_ ?_ hm hq hpl hn8 ha
    · exact hP.same fun k hk => h.block k (hB.sl_ne (by decide) hP k hk) (hx.sl_ne (by decide) hP k hk) (hR.sl_ne (by decide) hP k hk)
    · exact hA.same fun k hk => h.block k (hB.sl_ne (by decide) hA k hk) (hx.sl_ne (by decide) hA k hk) (hR.sl_ne (by decide) hA k hk)
    · exact hM.same (h.block _ (hM.neB hB) (hM.neB hx) (hM.neB hR))
  have HRE0 := hid_of hre0
  clear hP hA hM hq hpl hn8 ha hre0
  have hbm : b ≠ mb := hx.neT hB (by decide)
  have hrm : rb ≠ mb := hR.neT hB (by decide)
  have hrb : rb ≠ b := hR.neT hx (by decide)
  have hti : ((t : Nat) : Int) < 7 := by omega
  obtain ⟨m, hme⟩ : ∃ m : Nat, x.m = (m : Nat) := Int.eq_ofNat_of_zero_le hm.1
  have hm3 : m < 3 := by omega
  have hmi : ((m : Nat) : Int) < 3 := by omega
  obtain ⟨en, hene⟩ : ∃ en, (M.tg t).en = en := ⟨_, rfl⟩
  have he5 : en = 0 ∨ en = 1 ∨ en = 2 ∨ en = 3 ∨ en = 4 := by omega
  have hag' := hag
  unfold againM at hag'
  rw [hene, hme, Int.toNat_natCast] at hag'
  obtain ⟨wv, hwv⟩ : ∃ wv, x.rq.w = wv := ⟨_, rfl⟩
  obtain ⟨re, hre⟩ : ∃ re, x.an.re = re := ⟨_, rfl⟩
  obtain ⟨is, his⟩ : ∃ is, (M.tg t).is = is := ⟨_, rfl⟩
  obtain ⟨ba, hba⟩ : ∃ ba, M.ba m = ba := ⟨_, rfl⟩
  have c3 : w.cell? ⟨mb, 12 + t * 9 + 3, none⟩ = some (.pointer (some ⟨b, 0, none⟩)) := by rw [hB.cell, mg_sv _ _ ht, hsv]
  have c5 : w.cell? ⟨mb, 12 + t * 9 + 5, none⟩ = some (.int .u8 en) := by rw [hB.cell, mg_en _ _ ht, hene]
  have c8 : w.cell? ⟨mb, 12 + t * 9 + 8, none⟩ = some (.bool is) := by rw [hB.cell, mg_is _ _ ht, his]
  have c9 : w.cell? ⟨mb, 9 + m, none⟩ = some (.bool ba) := by rw [hB.cell, mg_ba _ _ hm3, hba]
  have d0 : w.cell? ⟨b, 0, none⟩ = some (.int .i64 (m : Nat)) := by rw [hx.cell, tg_0, hme]
  have d7 : w.cell? ⟨b, 7, none⟩ = some (.bool false) := by rw [hx.cell, tg_7, hd]
  have d2 : w.cell? ⟨b, 2, none⟩ = some (.bool wv) := by rw [hx.cell, tg_2, hwv]
  have d12 : w.cell? ⟨b, 12, none⟩ = some (.int .u8 re) := by rw [hx.cell, tg_12, hre]
  rw [hwv, hre, his, hba] at hag'
  have HAG := hid_of hag'
  have HE5 := hid_of he5
  have HB := hid_of hB
  have HX := hid_of hx
  have HR := hid_of hR
  have HSV := hid_of hsv
  have HD := hid_of hd
  have HEN := hid_of hene
  have HRE := hid_of hre
  have HRS := hid_of hrp
  clear hag hag' he5 hB hx hR hsv hd hwv his hba hme hene hre hrp
  go_enter Tryd.func52, Tryd.ntmps52
  go_upto_region 4 with fail
  refine cutM (Km := fun act wc => ∃ (u : Nat → Value), act = fr52a mb t rb b (mayRep wv en) u ∧ wc = w) ?rest ?first
  case first =>
    obtain ⟨KR, hKR⟩ : ∃ KR : Act → World → Prop, KR = fun act wc => ∃ (u : Nat → Value), act = fr52a mb t rb b (mayRep wv en) u ∧ wc = w := ⟨_, rfl⟩
    have HKR : Hid (∀ (act : Act), act = fr52a mb t rb b (mayRep wv en) (fun i => act.tmps.getD i undef) → KR act w) := fun act e1 => by rw [hKR]; exact ⟨_, e1, rfl⟩
    rw [← hKR]
    clear hKR HAG
    rcases HE5.out with rfl | rfl | rfl | rfl | rfl <;> rcases wv
    all_goals
      refine wp_region_list ?_
      go_wp2_with fail
      exact HKR.out _ (by kernel_rfl)
  case rest =>
    rintro act wc ⟨u, rfl, hwc⟩
    obtain rfl := hwc.symm
    unfold fr52a
    go_upto_region 5 with fail
    refine cutM (Km := fun act wc => ∃ (u : Nat → Value) (n : Nat), act = fr52 mb t rb b true u ∧ wc = w.drewN n) ?rest2 ?first2
    case first2 =>
      obtain ⟨KR, hKR⟩ : ∃ KR : Act → World → Prop, KR = fun act wc => ∃ (u : Nat → Value) (n : Nat), act = fr52 mb t rb b true u ∧ wc = w.drewN n := ⟨_, rfl⟩
      have HKR : Hid (∀ (act : Act) (n : Nat), act = fr52 mb t rb b true (fun i => act.tmps.getD i undef) → KR act (w.drewN n)) := fun act n e1 => by rw [hKR]; exact ⟨_, n, e1, rfl⟩
      rw [← hKR]
      clear hKR
      obtain ⟨mr, hmr⟩ : ∃ mr, mayRep wv en = mr := ⟨_, rfl⟩
      rw [hmr] at HAG ⊢
      have hag := HAG.out
      clear HAG hmr
      simp only [Bool.and_eq_true, Bool.not_eq_true', decide_eq_true_eq] at hag
      obtain ⟨⟨⟨rfl, h3⟩, rfl⟩, rfl⟩ := hag
      have h3' : decide (re < 3) = true := decide_eq_true h3
      go_quiet (fail)
      exact HKR.out _ _ (by kernel_rfl)
    case rest2 =>
      rintro act wc ⟨u, n, rfl, rfl⟩
      have h3 : x.an.re < 3 := by
        have h9 := HAG.out
        simp only [Bool.and_eq_true, decide_eq_true_eq] at h9
        rw [HRE.out]; exact h9.1.1.2
      have hadd : (x.an.re + 1) % 256 = x.an.re + 1 := by have := HRE0.out; omega
      clear c3 c5 c8 c9 d0 d7 d2 d12 HAG h3
      obtain ⟨w0, rfl, hl0⟩ := HB.out.out
      have hx0 : Blk w0 b (encT x) 148 := (put_heap_ne _ _ _ _ _ hbm).symm.trans HX.out
      obtain ⟨w1, rfl, hl1⟩ := hx0.out
      have hR0 : Blk w1 rb (encR ρ) 41 := ((put_heap_ne _ _ _ _ _ hrb).symm.trans ((put_heap_ne _ _ _ _ _ hrm).symm.trans HR.out))
      obtain ⟨w2, rfl, hl2⟩ := hR0.out
      have hbits : (bitsV ρ.rs + 2 ^ t) % 256 = bitsV (upd ρ.rs t true) := by
        rw [← bitsV_add ht HRS.out]
        have := bitsV_range (upd ρ.rs t true); omega
      simp only [put_size] at hl0 hl1
      have hpow : (2 ^ t : Int) % 256 = 2 ^ t := by
        obtain rfl | rfl | rfl | rfl | rfl | rfl | rfl : t = 0 ∨ t = 1 ∨ t = 2 ∨ t = 3 ∨ t = 4 ∨ t = 5 ∨ t = 6 := by omega
        all_goals decide
      clear hx0 hR0
      have HLP : Hid (∀ n, AgainMid (put (put (put w2 rb (encR ρ) 41) b (encT x) 148) mb (encM M) 104) ((put (put (put w2 rb (encR { ρ with rs := upd ρ.rs t true }) 41) b (encT (reM x)) 148) mb (encM M) 104).drewN n) mb b t rb M x ρ) := by
        intro n
        refine ⟨Blk.put_same (by simp only [put_size]; exact hl0), ?_, ?_, rfl, rfl, rfl, by simp [put_size], fun k h1 h2 h3 => ?_⟩
        · exact (put_heap_ne _ _ _ _ _ hbm).trans (Blk.put_same (by simp only [put_size]; exact hl1))
        · exact (put_heap_ne _ _ _ _ _ hrm).trans ((put_heap_ne _ _ _ _ _ hrb).trans (Blk.put_same hl2))
        · show (put (put (put w2 rb _ 41) b _ 148) mb _ 104).heap[k]? = _
          rw [put_heap_ne _ _ _ _ _ h1, put_heap_ne _ _ _ _ _ h2, put_heap_ne _ _ _ _ _ h3, put_heap_ne _ _ _ _ _ h1, put_heap_ne _ _ _ _ _ h2, put_heap_ne _ _ _ _ _ h3]
      clear hen
      unfold fr52
      go_upto_region 7 with fail
      refine wp_region_qtail 7 mixed (by kernel_rfl) ?_
      simp only [List.take_succ_cons, List.take_zero, List.drop_succ_cons, List.drop_zero]
      repeat (go_big_quiet_step (fail))
      refine wpQuiet_nil ?_
      go_wp2_with fail
      refine (HSND.out _ (HLP.out _)).mono ?_
      rintro e w9 ⟨rfl, hsp⟩
      have HSP := hid_of hsp
      clear hsp
      go_wp2_with fail
      exact bodyPost_ret (v := .tuple #[]) (results_none rfl _ _ _) rfl ⟨rfl, _, HLP.out _, HSP.out⟩
end Go.Proofs.Qxb6500750aDoor
