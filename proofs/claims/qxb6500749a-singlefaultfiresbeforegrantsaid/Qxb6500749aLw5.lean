import Derived.Test.Qxb6500749aRp5
import Derived.Test.Qxb6500749aSeq
namespace Go.Proofs.Qxb6500749a
open Go.RowKit
attribute [local go_sem] put_size put_cell_same put_cell_ne put_frozen_same put_frozen_ne put_setCell_same put_setCell_ne put_drew
attribute [local go_sem] drewN_setCell drewN_alloc drewN_put
/-! ### Law 5 walked -/
def fr5a (a : Option Addr) (n c rf rr vn ch mt : Nat) (x : Int) (u : Nat → Value) : Act :=
  { tmps := ((.slice a n c) :: (u 1) :: (u 2) :: (.pointer (some ⟨rf, 0, none⟩)) :: (.pointer (some ⟨rr, 0, none⟩)) :: (.int .i64 (vn : Nat)) :: (.int .i64 (ch : Nat)) :: (.int .i64 (mt : Nat)) :: (.int .i64 x) :: (u 9) :: (u 10) :: (u 11) :: (u 12) :: (u 13) :: (u 14) :: (u 15) :: (u 16) :: (u 17) :: (u 18) :: (u 19) :: (u 20) :: (u 21) :: (u 22) :: (u 23) :: (u 24) :: (u 25) :: (u 26) :: (u 27) :: (u 28) :: (u 29) :: (u 30) :: (u 31) :: (u 32) :: (u 33) :: (u 34) :: (u 35) :: (u 36) :: (u 37) :: (u 38) :: (u 39) :: (u 40) :: (u 41) :: (u 42) :: (u 43) :: (u 44) :: (u 45) :: (u 46) :: (u 47) :: (u 48) :: (u 49) :: (u 50) :: (u 51) :: (u 52) :: (u 53) :: (u 54) :: (u 55) :: (u 56) :: (u 57) :: (u 58) :: (u 59) :: (u 60) :: (u 61) :: (u 62) :: (u 63) :: (u 64) :: (u 65) :: (u 66) :: (u 67) :: (u 68) :: (u 69) :: (u 70) :: (u 71) :: (u 72) :: (u 73) :: (u 74) :: (u 75) :: (u 76) :: (u 77) :: (u 78) :: (u 79) :: (u 80) :: (u 81) :: (u 82) :: (u 83) :: (u 84) :: (u 85) :: (u 86) :: (u 87) :: (u 88) :: (u 89) :: (u 90) :: (u 91) :: (u 92) :: (u 93) :: (u 94) :: (u 95) :: (u 96) :: (u 97) :: (u 98) :: (u 99) :: (u 100) :: (u 101) :: (u 102) :: (u 103) :: (u 104) :: (u 105) :: (u 106) :: (u 107) :: (u 108) :: (u 109) :: (u 110) :: (u 111) :: (u 112) :: (u 113) :: (u 114) :: (u 115) :: (u 116) :: (u 117) :: (u 118) :: (u 119) :: (u 120) :: (u 121) :: (u 122) :: (u 123) :: (u 124) :: (u 125) :: (u 126) :: (u 127) :: (u 128) :: (u 129) :: (u 130) :: (u 131) :: (u 132) :: (u 133) :: (u 134) :: (u 135) :: (u 136) :: (u 137) :: (u 138) :: (u 139) :: (u 140) :: (u 141) :: (u 142) :: (u 143) :: (u 144) :: (u 145) :: (u 146) :: (u 147) :: (u 148) :: (u 149) :: (u 150) :: (u 151) :: (u 152) :: (u 153) :: (u 154) :: (u 155) :: (u 156) :: (u 157) :: (u 158) :: (u 159) :: (u 160) :: (u 161) :: (u 162) :: (u 163) :: (u 164) :: (u 165) :: (u 166) :: (u 167) :: (u 168) :: (u 169) :: (u 170) :: (u 171) :: (u 172) :: (u 173) :: (u 174) :: (u 175) :: (u 176) :: (u 177) :: (u 178) :: (u 179) :: (u 180) :: (u 181) :: (u 182) :: (u 183) :: (u 184) :: (u 185) :: (u 186) :: [] : List Value).toArray, defers := [] }
def fr5b (a : Option Addr) (n c rf rr vn ch mt : Nat) (x : Int) (ba bb : Nat) (u : Nat → Value) : Act :=
  { tmps := ((.slice a n c) :: (u 1) :: (u 2) :: (.pointer (some ⟨rf, 0, none⟩)) :: (.pointer (some ⟨rr, 0, none⟩)) :: (.int .i64 (vn : Nat)) :: (.int .i64 (ch : Nat)) :: (.int .i64 (mt : Nat)) :: (.int .i64 x) :: (.pointer (some ⟨ba, 0, none⟩)) :: (.pointer (some ⟨bb, 0, none⟩)) :: (u 11) :: (u 12) :: (u 13) :: (u 14) :: (u 15) :: (u 16) :: (u 17) :: (u 18) :: (u 19) :: (u 20) :: (u 21) :: (u 22) :: (u 23) :: (u 24) :: (u 25) :: (u 26) :: (u 27) :: (u 28) :: (u 29) :: (u 30) :: (u 31) :: (u 32) :: (u 33) :: (u 34) :: (u 35) :: (u 36) :: (u 37) :: (u 38) :: (u 39) :: (u 40) :: (u 41) :: (u 42) :: (u 43) :: (u 44) :: (u 45) :: (u 46) :: (u 47) :: (u 48) :: (u 49) :: (u 50) :: (u 51) :: (u 52) :: (u 53) :: (u 54) :: (u 55) :: (u 56) :: (u 57) :: (u 58) :: (u 59) :: (u 60) :: (u 61) :: (u 62) :: (u 63) :: (u 64) :: (u 65) :: (u 66) :: (u 67) :: (u 68) :: (u 69) :: (u 70) :: (u 71) :: (u 72) :: (u 73) :: (u 74) :: (u 75) :: (u 76) :: (u 77) :: (u 78) :: (u 79) :: (u 80) :: (u 81) :: (u 82) :: (u 83) :: (u 84) :: (u 85) :: (u 86) :: (u 87) :: (u 88) :: (u 89) :: (u 90) :: (u 91) :: (u 92) :: (u 93) :: (u 94) :: (u 95) :: (u 96) :: (u 97) :: (u 98) :: (u 99) :: (u 100) :: (u 101) :: (u 102) :: (u 103) :: (u 104) :: (u 105) :: (u 106) :: (u 107) :: (u 108) :: (u 109) :: (u 110) :: (u 111) :: (u 112) :: (u 113) :: (u 114) :: (u 115) :: (u 116) :: (u 117) :: (u 118) :: (u 119) :: (u 120) :: (u 121) :: (u 122) :: (u 123) :: (u 124) :: (u 125) :: (u 126) :: (u 127) :: (u 128) :: (u 129) :: (u 130) :: (u 131) :: (u 132) :: (u 133) :: (u 134) :: (u 135) :: (u 136) :: (u 137) :: (u 138) :: (u 139) :: (u 140) :: (u 141) :: (u 142) :: (u 143) :: (u 144) :: (u 145) :: (u 146) :: (u 147) :: (u 148) :: (u 149) :: (u 150) :: (u 151) :: (u 152) :: (u 153) :: (u 154) :: (u 155) :: (u 156) :: (u 157) :: (u 158) :: (u 159) :: (u 160) :: (u 161) :: (u 162) :: (u 163) :: (u 164) :: (u 165) :: (u 166) :: (u 167) :: (u 168) :: (u 169) :: (u 170) :: (u 171) :: (u 172) :: (u 173) :: (u 174) :: (u 175) :: (u 176) :: (u 177) :: (u 178) :: (u 179) :: (u 180) :: (u 181) :: (u 182) :: (u 183) :: (u 184) :: (u 185) :: (u 186) :: [] : List Value).toArray, defers := [] }
def fr5c (a : Option Addr) (n c rf rr vn ch mt : Nat) (va : Option Addr) (vc j : Nat) (u : Nat → Value) : Act :=
  { tmps := ((.slice a n c) :: (u 1) :: (u 2) :: (.pointer (some ⟨rf, 0, none⟩)) :: (.pointer (some ⟨rr, 0, none⟩)) :: (.int .i64 (vn : Nat)) :: (.int .i64 (ch : Nat)) :: (.int .i64 (mt : Nat)) :: (u 8) :: (u 9) :: (u 10) :: (u 11) :: (u 12) :: (u 13) :: (u 14) :: (u 15) :: (u 16) :: (u 17) :: (u 18) :: (u 19) :: (u 20) :: (u 21) :: (u 22) :: (u 23) :: (u 24) :: (u 25) :: (u 26) :: (u 27) :: (u 28) :: (u 29) :: (u 30) :: (u 31) :: (u 32) :: (u 33) :: (u 34) :: (u 35) :: (u 36) :: (u 37) :: (u 38) :: (u 39) :: (u 40) :: (u 41) :: (u 42) :: (u 43) :: (u 44) :: (u 45) :: (u 46) :: (u 47) :: (u 48) :: (u 49) :: (u 50) :: (u 51) :: (u 52) :: (u 53) :: (u 54) :: (u 55) :: (u 56) :: (u 57) :: (u 58) :: (u 59) :: (u 60) :: (u 61) :: (u 62) :: (u 63) :: (u 64) :: (u 65) :: (u 66) :: (u 67) :: (u 68) :: (u 69) :: (u 70) :: (u 71) :: (u 72) :: (u 73) :: (u 74) :: (u 75) :: (u 76) :: (u 77) :: (u 78) :: (u 79) :: (u 80) :: (u 81) :: (u 82) :: (u 83) :: (u 84) :: (u 85) :: (u 86) :: (u 87) :: (u 88) :: (u 89) :: (u 90) :: (u 91) :: (u 92) :: (u 93) :: (u 94) :: (u 95) :: (u 96) :: (u 97) :: (u 98) :: (u 99) :: (u 100) :: (u 101) :: (u 102) :: (u 103) :: (u 104) :: (u 105) :: (u 106) :: (u 107) :: (u 108) :: (u 109) :: (u 110) :: (.slice va vn vc) :: (.int .i64 (vn : Nat)) :: (.int .i64 (j : Nat)) :: (u 114) :: (u 115) :: (u 116) :: (u 117) :: (u 118) :: (u 119) :: (u 120) :: (u 121) :: (u 122) :: (u 123) :: (u 124) :: (u 125) :: (u 126) :: (u 127) :: (u 128) :: (u 129) :: (u 130) :: (u 131) :: (u 132) :: (u 133) :: (u 134) :: (u 135) :: (u 136) :: (u 137) :: (u 138) :: (u 139) :: (u 140) :: (u 141) :: (u 142) :: (u 143) :: (u 144) :: (u 145) :: (u 146) :: (u 147) :: (u 148) :: (u 149) :: (u 150) :: (u 151) :: (u 152) :: (u 153) :: (u 154) :: (u 155) :: (u 156) :: (u 157) :: (u 158) :: (u 159) :: (u 160) :: (u 161) :: (u 162) :: (u 163) :: (u 164) :: (u 165) :: (u 166) :: (u 167) :: (u 168) :: (u 169) :: (u 170) :: (u 171) :: (u 172) :: (u 173) :: (u 174) :: (u 175) :: (u 176) :: (u 177) :: (u 178) :: (u 179) :: (u 180) :: (u 181) :: (u 182) :: (u 183) :: (u 184) :: (u 185) :: (u 186) :: [] : List Value).toArray, defers := [] }
set_option maxRecDepth 100000 in
set_option maxHeartbeats 16000000 in
theorem law5_any (a : Option Addr) (n c : Nat) (s : Nat → OpD) (w : World) (hs : Scr w a n s) :
    Calls Try.prog 5 #[.slice a n c] w fun e w' => e = .returned (.bool true) ∧ Below w.heap.size w w' := by
  by_cases hn : n ≤ 65536
  · have HS := hid_of hs
    have HSM := hid_of (small_yes a n c hn w)
    have HPL := hid_of (play_any a n c s hn false true w hs)
    have hok := plyN_ok s false true n (fun k hk => hs.1 k hk)
    have hok2 := plyN_ok s false false n (fun k hk => hs.1 k hk)
    have HQ := hid_of (q5_play s n)
    have HLEN : Hid ((plyN s false true n).reps.length < 1000000000 ∧ (plyN s false true n).uP.log.length < 1000000000 ∧ (plyN s false false n).uP.log.length < 1000000000) := ⟨by have := hok.2; omega, by have := hok.1.uP.glen; have := hok.2; omega, by have := hok2.1.uP.glen; have := hok2.2; omega⟩
    have HNN := hid_of hn
    clear hs hn hok hok2
    go_enter Try.func5, Try.ntmps5
    go_wp2_with fail
    refine HSM.out.mono ?_
    rintro e w0 ⟨rfl, hw0⟩
    obtain rfl := hw0.symm
    clear HSM hw0
    go_wp2_with fail
    refine HPL.out.mono ?_
    rintro e w1 ⟨rfl, own, L, hr1, hb1, ho1, hl1⟩
    have HR1 := hid_of hr1
    have HB1 := hid_of hb1
    have HL1 := hid_of hl1
    clear HPL ho1
    have g5 : w1.cell? ⟨w.heap.size + 5, 5, none⟩ = some (.bool (plyN s false true n).ho) := by rw [← hl1]; exact hr1.rg.1.cell 5
    have g11 : w1.cell? ⟨w.heap.size + 5, 11, none⟩ = some (.int .u32 (plyN s false true n).fo.site) := by rw [← hl1]; exact hr1.rg.1.cell 11
    cases hho : (plyN s false true n).ho
    · rw [hho] at g5
      go_wp2_with fail
      go_ret
      exact ⟨rfl, HB1.out⟩
    by_cases hsite : (plyN s false true n).fo.site ≥ 46
    · rw [hho] at g5
      go_wp2_with fail
      go_ret
      exact ⟨rfl, HB1.out⟩
    rw [hho] at g5
    obtain ⟨m, up, hraw, hre, hpx⟩ := HQ.out.up hho (by omega)
    have HPL2 := hid_of (play_any a n c s HNN.out false false w1 (HS.out.below hb1))
    go_upto_region 6 with fail
    clear g5 g11 hr1 hb1 hl1 hho hsite
    refine wp_region_list ?_
    go_wp2_with fail
    refine HPL2.out.mono ?_
    rintro e w2 ⟨rfl, own2, L2, hr2, hb2, ho2, hl2⟩
    have hrf : RR own w2 L (plyN s false true n) := HR1.out.below hb2
    obtain ⟨vn, hvn⟩ : ∃ vn, (plyN s false true n).reps.length = vn := ⟨_, rfl⟩
    have hvr : (plyN s false false n).reps.length = vn := by rw [← up.len]; exact hvn
    obtain ⟨va, vc, hfv⟩ := hrf.reps.1.form'
    obtain ⟨ra, rc, hrv⟩ := hr2.reps.1.form'
    rw [hvn] at hfv
    rw [hvr] at hrv
    have HF22 : Hid (w2.cell? ⟨w.heap.size + 5, 22, none⟩ = some (.slice va vn vc)) := by unfold Hid; rw [← HL1.out, ← hfv]; exact hrf.rg.1.cell 22
    have HR22 : Hid (w2.cell? ⟨w1.heap.size + 5, 22, none⟩ = some (.slice ra vn rc)) := by unfold Hid; rw [← hl2, ← hrv]; exact hr2.rg.1.cell 22
    have HSF : Hid (Sl w2 (.slice va vn vc) 51 13 vn ((plyN s false true n).reps.flatMap reprow)) := by have h9 := hrf.reps.1; rw [hfv, hvn] at h9; exact h9
    have HSR : Hid (Sl w2 (.slice ra vn rc) 51 13 vn ((plyN s false false n).reps.flatMap reprow)) := by have h9 := hr2.reps.1; rw [hrv, hvr] at h9; exact h9
    have HLT : Hid (w.heap.size + 5 < w2.heap.size ∧ w1.heap.size + 5 < w2.heap.size) := ⟨by rw [← HL1.out]; exact hrf.rg.1.lt, by rw [← hl2]; exact hr2.rg.1.lt⟩
    have HRF := hid_of hrf
    have HRR := hid_of hr2
    have HL2 := hid_of hl2
    have HB2 : Hid (Below w.heap.size w w2) := HB1.out.trans (hb2.mono HB1.out.size)
    have HUP := hid_of up
    have HRAW := hid_of hraw
    have HRE := hid_of hre
    have HPX := hid_of hpx
    have hvl : vn < 1000000000 := by rw [← hvn]; exact HLEN.out.1
    have HVN : Hid ((plyN s false true n).reps.length = vn ∧ (plyN s false false n).reps.length = vn) := ⟨hvn, hvr⟩
    have g22 := HF22.out
    have hsubn : IntKind.i64.wrap (((vn : Nat) : Int) - 1) = (vn : Nat) - 1 := by simp [IntKind.wrap, IntKind.bits, IntKind.signed]; omega
    clear hr2 hb2 ho2 hl2 hrf hfv hrv hvn hvr up hraw hre hpx HPL2 HR1 HB1
    go_upto_block 0 with fail
    clear g22
    refine cutM (Km := fun act wr => ∃ (u : Nat → Value) (x : Int), act = fr5a a n c (w.heap.size + 5) (w1.heap.size + 5) vn (lst (chg (plyN s false true n).reps (plyN s false false n).reps) vn vn) (lst (nes (plyN s false true n).reps) vn vn) x u ∧ Hid (Below w2.heap.size w2 wr)) ?rest1 ?first1
    case first1 =>
      obtain ⟨KF, hKF⟩ : ∃ KF : Act → World → Prop, KF = fun act wr => ∃ (u : Nat → Value) (x : Int), act = fr5a a n c (w.heap.size + 5) (w1.heap.size + 5) vn (lst (chg (plyN s false true n).reps (plyN s false false n).reps) vn vn) (lst (nes (plyN s false true n).reps) vn vn) x u ∧ Hid (Below w2.heap.size w2 wr) := ⟨_, rfl⟩
      have HKF : Hid (∀ (act : Act) (wr : World) (x : Int), act = fr5a a n c (w.heap.size + 5) (w1.heap.size + 5) vn (lst (chg (plyN s false true n).reps (plyN s false false n).reps) vn vn) (lst (nes (plyN s false true n).reps) vn vn) x (fun i => act.tmps.getD i undef) → Below w2.heap.size w2 wr → KF act wr) := fun act wr x e h => by rw [hKF]; exact ⟨_, x, e, h⟩
      rw [← hKF]
      clear hKF
      go_wp2_with fail
      refine q_of (Q := fun a => (Code.loop _).wp Try.prog _ a _) (F := fr5a a n c (w.heap.size + 5) (w1.heap.size + 5) vn vn vn (((vn : Nat) : Int) - 1)) (fun u0 => ?_) _ (by kernel_rfl)
      refine wp_loop (fun act wr => ∃ (u : Nat → Value) (k : Nat) (x : Int), act = fr5a a n c (w.heap.size + 5) (w1.heap.size + 5) vn (lst (chg (plyN s false true n).reps (plyN s false false n).reps) vn k) (lst (nes (plyN s false true n).reps) vn k) x u ∧ x = (vn : Nat) - (k : Nat) - 1 ∧ k ≤ vn ∧ Hid (Below w2.heap.size w2 wr)) (fun act _ => (intOf (act.tmps.getD 8 undef) + 1).toNat) ⟨u0, 0, ((vn : Nat) : Int) - 1, rfl, by omega, Nat.zero_le _, Below.refl _ _⟩ ?_
      rintro act wr ⟨u, k, x, rfl, hx, hk, HB⟩
      by_cases hkn : k < vn
      · obtain ⟨j, hj⟩ : ∃ j, vn - (k + 1) = j := ⟨_, rfl⟩
        have hxj : x = (j : Nat) := by omega
        subst hxj
        have hcs : lst (chg (plyN s false true n).reps (plyN s false false n).reps) vn (k + 1) = if chg (plyN s false true n).reps (plyN s false false n).reps j = true then j else lst (chg (plyN s false true n).reps (plyN s false false n).reps) vn k := by rw [← hj]; rfl
        have hms : lst (nes (plyN s false true n).reps) vn (k + 1) = if nes (plyN s false true n).reps j = true then j else lst (nes (plyN s false true n).reps) vn k := by rw [← hj]; rfl
        have hjn : j < vn := by omega
        obtain ⟨f, hf⟩ : ∃ f, (plyN s false true n).reps[j]? = some f := ⟨_, List.getElem?_eq_getElem (by rw [HVN.out.1]; exact hjn)⟩
        obtain ⟨r, hr⟩ : ∃ r, (plyN s false false n).reps[j]? = some r := ⟨_, List.getElem?_eq_getElem (by rw [HVN.out.2]; exact hjn)⟩
        rw [chg_parts hf hr] at hcs
        rw [show nes (plyN s false true n).reps j = neB f.del f.sha by unfold nes; rw [hf]] at hms
        obtain ⟨ch, hch⟩ : ∃ ch, lst (chg (plyN s false true n).reps (plyN s false false n).reps) vn k = ch := ⟨_, rfl⟩
        obtain ⟨mt, hmt⟩ : ∃ mt, lst (nes (plyN s false true n).reps) vn k = mt := ⟨_, rfl⟩
        rw [hch] at hcs ⊢
        rw [hmt] at hms ⊢
        obtain ⟨b1, o1, c1', e1, _, hl1⟩ := HSF.out.form (by omega)
        obtain ⟨b2, o2, c2', e2, _, hl2⟩ := HSR.out.form (by omega)
        injection e1 with e1 _ e3
        injection e2 with e2 _ e4
        subst e1; subst e3; subst e2; subst e4
        obtain ⟨KR, hKR⟩ : ∃ KR : Act → World → Prop, KR = fun a' w' => ((fun act wr => ∃ (u : Nat → Value) (k : Nat) (x : Int), act = fr5a a n c (w.heap.size + 5) (w1.heap.size + 5) vn (lst (chg (plyN s false true n).reps (plyN s false false n).reps) vn k) (lst (nes (plyN s false true n).reps) vn k) x u ∧ x = (vn : Nat) - (k : Nat) - 1 ∧ k ≤ vn ∧ Hid (Below w2.heap.size w2 wr)) a' w' ∧ (intOf (a'.tmps.getD 8 undef) + 1).toNat < (intOf ((fr5a a n c (w.heap.size + 5) (w1.heap.size + 5) vn ch mt (j : Nat) u).tmps.getD 8 undef) + 1).toNat) := ⟨_, rfl⟩
        have HKR : Hid (∀ (act : Act) (w' : World) (ch' mt' : Nat), act = fr5a a n c (w.heap.size + 5) (w1.heap.size + 5) vn ch' mt' (((j : Nat) : Int) - 1) (fun i => act.tmps.getD i undef) → ch' = (if (neB f.raw r.raw || neB f.del r.del || neB f.sha r.sha) = true then j else ch) → mt' = (if neB f.del f.sha = true then j else mt) → Below w2.heap.size w2 w' → KR act w') := fun act w' ch' mt' e h1 h2 hb => by
          rw [hKR]
          refine ⟨⟨_, k + 1, ((j : Nat) : Int) - 1, by rw [hcs, hms, ← h1, ← h2]; exact e, by omega, hkn, hb⟩, ?_⟩
          have e1 : act.tmps.getD 8 undef = .int .i64 (((j : Nat) : Int) - 1) := by rw [e]; rfl
          have e2 : (fr5a a n c (w.heap.size + 5) (w1.heap.size + 5) vn ch mt (j : Nat) u).tmps.getD 8 undef = .int .i64 ((j : Nat) : Int) := rfl
          simp only [e1, e2, intOf]
          omega
        rw [← hKR]
        have HRD : Hid (∀ ω, Below wr.heap.size wr ω → (ω.cell? ⟨w.heap.size + 5, 22, none⟩ = some (.slice (some ⟨b1, o1, none⟩) vn vc) ∧ ω.cell? ⟨w1.heap.size + 5, 22, none⟩ = some (.slice (some ⟨b2, o2, none⟩) vn rc)) ∧ (∀ i, i < 13 → ω.cell? ⟨b1, o1 + j * 13 + i, none⟩ = (reprow f)[i]?) ∧ (∀ i, i < 13 → ω.cell? ⟨b2, o2 + j * 13 + i, none⟩ = (reprow r)[i]?)) := fun ω hω => by
          have hb : Below w2.heap.size w2 ω := HB.out.trans (hω.mono HB.out.size)
          exact ⟨⟨(hb.cell HLT.out.1).trans HF22.out, (hb.cell HLT.out.2).trans HR22.out⟩, fun i hi => (hb.cell hl1).trans (Sl.rowc (f := reprow) (m := 13) (fun _ => rfl) HSF.out rfl hf i hi), fun i hi => (hb.cell hl2).trans (Sl.rowc (f := reprow) (m := 13) (fun _ => rfl) HSR.out rfl hr i hi)⟩
        have hjv : ((j : Nat) : Int) < (vn : Nat) := by omega
        have hj0 : ((j : Nat) : Int) ≥ 0 := by omega
        have hsubj : IntKind.i64.wrap (((j : Nat) : Int) - 1) = (j : Nat) - 1 := by simp [IntKind.wrap, IntKind.bits, IntKind.signed]; omega
        clear hKR hcs hms hch hmt hj hx hf hr hkn hk
        unfold fr5a
        go_upto_region 12 with fail
        refine cutM (Km := fun act wd => ∃ u ba bb, act = fr5b a n c (w.heap.size + 5) (w1.heap.size + 5) vn ch mt (j : Nat) ba bb u ∧ Hid (Below w2.heap.size w2 wd ∧ Blk wd ba #[.int .u32 f.raw.c, .int .u32 f.raw.a, .int .u32 f.raw.d, .int .u32 f.del.c, .int .u32 f.del.a, .int .u32 f.del.d, .int .u32 f.sha.c, .int .u32 f.sha.a, .int .u32 f.sha.d, .bool f.fa, .bool f.fb, .bool f.al, .bool f.gr] 51 ∧ Blk wd bb #[.int .u32 r.raw.c, .int .u32 r.raw.a, .int .u32 r.raw.d, .int .u32 r.del.c, .int .u32 r.del.a, .int .u32 r.del.d, .int .u32 r.sha.c, .int .u32 r.sha.a, .int .u32 r.sha.d, .bool r.fa, .bool r.fb, .bool r.al, .bool r.gr] 51)) ?rest2 ?first2
        case first2 =>
          obtain ⟨KG, hKG⟩ : ∃ KG : Act → World → Prop, KG = fun act wd => ∃ u ba bb, act = fr5b a n c (w.heap.size + 5) (w1.heap.size + 5) vn ch mt (j : Nat) ba bb u ∧ Hid (Below w2.heap.size w2 wd ∧ Blk wd ba #[.int .u32 f.raw.c, .int .u32 f.raw.a, .int .u32 f.raw.d, .int .u32 f.del.c, .int .u32 f.del.a, .int .u32 f.del.d, .int .u32 f.sha.c, .int .u32 f.sha.a, .int .u32 f.sha.d, .bool f.fa, .bool f.fb, .bool f.al, .bool f.gr] 51 ∧ Blk wd bb #[.int .u32 r.raw.c, .int .u32 r.raw.a, .int .u32 r.raw.d, .int .u32 r.del.c, .int .u32 r.del.a, .int .u32 r.del.d, .int .u32 r.sha.c, .int .u32 r.sha.a, .int .u32 r.sha.d, .bool r.fa, .bool r.fb, .bool r.al, .bool r.gr] 51) := ⟨_, rfl⟩
          have HKG : Hid (∀ (act : Act) (wd : World) (ba bb : Nat), act = fr5b a n c (w.heap.size + 5) (w1.heap.size + 5) vn ch mt (j : Nat) ba bb (fun i => act.tmps.getD i undef) → Below wr.heap.size wr wd → Blk wd ba #[.int .u32 f.raw.c, .int .u32 f.raw.a, .int .u32 f.raw.d, .int .u32 f.del.c, .int .u32 f.del.a, .int .u32 f.del.d, .int .u32 f.sha.c, .int .u32 f.sha.a, .int .u32 f.sha.d, .bool f.fa, .bool f.fb, .bool f.al, .bool f.gr] 51 → Blk wd bb #[.int .u32 r.raw.c, .int .u32 r.raw.a, .int .u32 r.raw.d, .int .u32 r.del.c, .int .u32 r.del.a, .int .u32 r.del.d, .int .u32 r.sha.c, .int .u32 r.sha.a, .int .u32 r.sha.d, .bool r.fa, .bool r.fb, .bool r.al, .bool r.gr] 51 → KG act wd) := fun act wd ba bb e h1 h2 h3 => by rw [hKG]; exact ⟨_, ba, bb, e, HB.out.trans (h1.mono HB.out.size), h2, h3⟩
          rw [← hKG]
          clear hKG
          have HW2 : Hid (Below wr.heap.size wr ((wr.drew.alloc (.cells #[.int .u32 0, .int .u32 0, .int .u32 0, .int .u32 0, .int .u32 0, .int .u32 0, .int .u32 0, .int .u32 0, .int .u32 0, .bool false, .bool false, .bool false, .bool false] 51)).alloc (.cells #[.int .u32 0, .int .u32 0, .int .u32 0, .int .u32 0, .int .u32 0, .int .u32 0, .int .u32 0, .int .u32 0, .int .u32 0, .bool false, .bool false, .bool false, .bool false] 51)) ∧ Blk ((wr.drew.alloc (.cells #[.int .u32 0, .int .u32 0, .int .u32 0, .int .u32 0, .int .u32 0, .int .u32 0, .int .u32 0, .int .u32 0, .int .u32 0, .bool false, .bool false, .bool false, .bool false] 51)).alloc (.cells #[.int .u32 0, .int .u32 0, .int .u32 0, .int .u32 0, .int .u32 0, .int .u32 0, .int .u32 0, .int .u32 0, .int .u32 0, .bool false, .bool false, .bool false, .bool false] 51)) wr.heap.size #[.int .u32 0, .int .u32 0, .int .u32 0, .int .u32 0, .int .u32 0, .int .u32 0, .int .u32 0, .int .u32 0, .int .u32 0, .bool false, .bool false, .bool false, .bool false] 51 ∧ Blk ((wr.drew.alloc (.cells #[.int .u32 0, .int .u32 0, .int .u32 0, .int .u32 0, .int .u32 0, .int .u32 0, .int .u32 0, .int .u32 0, .int .u32 0, .bool false, .bool false, .bool false, .bool false] 51)).alloc (.cells #[.int .u32 0, .int .u32 0, .int .u32 0, .int .u32 0, .int .u32 0, .int .u32 0, .int .u32 0, .int .u32 0, .int .u32 0, .bool false, .bool false, .bool false, .bool false] 51)) (wr.heap.size + 1) #[.int .u32 0, .int .u32 0, .int .u32 0, .int .u32 0, .int .u32 0, .int .u32 0, .int .u32 0, .int .u32 0, .int .u32 0, .bool false, .bool false, .bool false, .bool false] 51) := by
            have k1 : Below wr.drew.heap.size wr.drew ((wr.drew.alloc (.cells #[.int .u32 0, .int .u32 0, .int .u32 0, .int .u32 0, .int .u32 0, .int .u32 0, .int .u32 0, .int .u32 0, .int .u32 0, .bool false, .bool false, .bool false, .bool false] 51)).alloc (.cells #[.int .u32 0, .int .u32 0, .int .u32 0, .int .u32 0, .int .u32 0, .int .u32 0, .int .u32 0, .int .u32 0, .int .u32 0, .bool false, .bool false, .bool false, .bool false] 51)) := ((Below.refl _ _).alloc (Nat.le_refl _) _).alloc (by simp) _
            refine ⟨⟨k1.os, k1.tape, k1.output, k1.size, k1.block⟩, (Below.heap_alloc _ _ _ (by simp)).trans (Blk.new wr.drew _ 51), ?_⟩
            have k2 := Blk.new (wr.drew.alloc (.cells #[.int .u32 0, .int .u32 0, .int .u32 0, .int .u32 0, .int .u32 0, .int .u32 0, .int .u32 0, .int .u32 0, .int .u32 0, .bool false, .bool false, .bool false, .bool false] 51)) #[.int .u32 0, .int .u32 0, .int .u32 0, .int .u32 0, .int .u32 0, .int .u32 0, .int .u32 0, .int .u32 0, .int .u32 0, .bool false, .bool false, .bool false, .bool false] 51
            rw [size_alloc'] at k2
            exact k2
          have HJ1 : Hid (Below wr.heap.size wr (wr.drew.alloc (.cells #[.int .u32 0, .int .u32 0, .int .u32 0, .int .u32 0, .int .u32 0, .int .u32 0, .int .u32 0, .int .u32 0, .int .u32 0, .bool false, .bool false, .bool false, .bool false] 51))) := by
            have k1 : Below wr.drew.heap.size wr.drew (wr.drew.alloc (.cells #[.int .u32 0, .int .u32 0, .int .u32 0, .int .u32 0, .int .u32 0, .int .u32 0, .int .u32 0, .int .u32 0, .int .u32 0, .bool false, .bool false, .bool false, .bool false] 51)) := (Below.refl _ _).alloc (Nat.le_refl _) _
            exact ⟨k1.os, k1.tape, k1.output, k1.size, k1.block⟩
          obtain ⟨W2, hW2⟩ : ∃ W2, (wr.drew.alloc (.cells #[.int .u32 0, .int .u32 0, .int .u32 0, .int .u32 0, .int .u32 0, .int .u32 0, .int .u32 0, .int .u32 0, .int .u32 0, .bool false, .bool false, .bool false, .bool false] 51)).alloc (.cells #[.int .u32 0, .int .u32 0, .int .u32 0, .int .u32 0, .int .u32 0, .int .u32 0, .int .u32 0, .int .u32 0, .int .u32 0, .bool false, .bool false, .bool false, .bool false] 51) = W2 := ⟨_, rfl⟩
          rw [hW2] at HW2
          have HWE := hid_of hW2
          clear hW2
          have HTWO : Hid (∀ (ba bb : Nat) (F1 F2 : Array Value), ba ≠ bb → wr.heap.size ≤ ba → wr.heap.size ≤ bb → Blk W2 ba #[.int .u32 0, .int .u32 0, .int .u32 0, .int .u32 0, .int .u32 0, .int .u32 0, .int .u32 0, .int .u32 0, .int .u32 0, .bool false, .bool false, .bool false, .bool false] 51 → Blk W2 bb #[.int .u32 0, .int .u32 0, .int .u32 0, .int .u32 0, .int .u32 0, .int .u32 0, .int .u32 0, .int .u32 0, .int .u32 0, .bool false, .bool false, .bool false, .bool false] 51 → ∃ u, W2 = put (put u ba #[.int .u32 0, .int .u32 0, .int .u32 0, .int .u32 0, .int .u32 0, .int .u32 0, .int .u32 0, .int .u32 0, .int .u32 0, .bool false, .bool false, .bool false, .bool false] 51) bb #[.int .u32 0, .int .u32 0, .int .u32 0, .int .u32 0, .int .u32 0, .int .u32 0, .int .u32 0, .int .u32 0, .int .u32 0, .bool false, .bool false, .bool false, .bool false] 51 ∧ ba < u.heap.size ∧ bb < u.heap.size ∧ Below wr.heap.size wr (put (put u ba F1 51) bb F2 51) ∧ Below wr.heap.size wr (put (put u ba F1 51) bb #[.int .u32 0, .int .u32 0, .int .u32 0, .int .u32 0, .int .u32 0, .int .u32 0, .int .u32 0, .int .u32 0, .int .u32 0, .bool false, .bool false, .bool false, .bool false] 51)) := fun ba bb F1 F2 hne h1 h2 h3 h4 => by
            refine ⟨W2, ?_, h3.lt, h4.lt, ?_, ?_⟩
            · rw [put_self W2 ba _ 51 h3, put_self W2 bb _ 51 h4]
            · exact Below.put (Below.put HW2.out.1 h1 _ _) h2 _ _
            · exact Below.put (Below.put HW2.out.1 h1 _ _) h2 _ _
          refine wp_region_tree [0, 1, 2, 3, 4, 5, 6, 7, 8, 9, 10, 11, 12, 13] [] 4 [0, 1, 2, 4, 5, 7, 8, 9, 11, 12] mixed (fun ω => Below wr.heap.size wr ω) (by kernel_rfl) rfl (by kernel_rfl) ⟨rfl, rfl, rfl, Nat.le_refl _, fun _ _ => rfl⟩ ?_
          iterate 14 refine wpFl_op _ _ _ _ rfl rfl (fun ω hj => by
            first
            | (go_simp; rfl)
            | (have hω := HRD.out ω (hj rfl)
               have i1 := hω.1.1
               have i2 := hω.1.2
               have f0 : ω.cell? ⟨b1, o1 + j * 13, none⟩ = some (.int .u32 f.raw.c) := hω.2.1 0 (by decide)
               have f1 : ω.cell? ⟨b1, o1 + j * 13 + 1, none⟩ = some (.int .u32 f.raw.a) := hω.2.1 1 (by decide)
               have f2 : ω.cell? ⟨b1, o1 + j * 13 + 2, none⟩ = some (.int .u32 f.raw.d) := hω.2.1 2 (by decide)
               have f3 : ω.cell? ⟨b1, o1 + j * 13 + 3, none⟩ = some (.int .u32 f.del.c) := hω.2.1 3 (by decide)
               have f4 : ω.cell? ⟨b1, o1 + j * 13 + 4, none⟩ = some (.int .u32 f.del.a) := hω.2.1 4 (by decide)
               have f5 : ω.cell? ⟨b1, o1 + j * 13 + 5, none⟩ = some (.int .u32 f.del.d) := hω.2.1 5 (by decide)
               have f6 : ω.cell? ⟨b1, o1 + j * 13 + 6, none⟩ = some (.int .u32 f.sha.c) := hω.2.1 6 (by decide)
               have f7 : ω.cell? ⟨b1, o1 + j * 13 + 7, none⟩ = some (.int .u32 f.sha.a) := hω.2.1 7 (by decide)
               have f8 : ω.cell? ⟨b1, o1 + j * 13 + 8, none⟩ = some (.int .u32 f.sha.d) := hω.2.1 8 (by decide)
               have f9 : ω.cell? ⟨b1, o1 + j * 13 + 9, none⟩ = some (.bool f.fa) := hω.2.1 9 (by decide)
               have f10 : ω.cell? ⟨b1, o1 + j * 13 + 10, none⟩ = some (.bool f.fb) := hω.2.1 10 (by decide)
               have f11 : ω.cell? ⟨b1, o1 + j * 13 + 11, none⟩ = some (.bool f.al) := hω.2.1 11 (by decide)
               have f12 : ω.cell? ⟨b1, o1 + j * 13 + 12, none⟩ = some (.bool f.gr) := hω.2.1 12 (by decide)
               have r0 : ω.cell? ⟨b2, o2 + j * 13, none⟩ = some (.int .u32 r.raw.c) := hω.2.2 0 (by decide)
               have r1 : ω.cell? ⟨b2, o2 + j * 13 + 1, none⟩ = some (.int .u32 r.raw.a) := hω.2.2 1 (by decide)
               have r2 : ω.cell? ⟨b2, o2 + j * 13 + 2, none⟩ = some (.int .u32 r.raw.d) := hω.2.2 2 (by decide)
               have r3 : ω.cell? ⟨b2, o2 + j * 13 + 3, none⟩ = some (.int .u32 r.del.c) := hω.2.2 3 (by decide)
               have r4 : ω.cell? ⟨b2, o2 + j * 13 + 4, none⟩ = some (.int .u32 r.del.a) := hω.2.2 4 (by decide)
               have r5 : ω.cell? ⟨b2, o2 + j * 13 + 5, none⟩ = some (.int .u32 r.del.d) := hω.2.2 5 (by decide)
               have r6 : ω.cell? ⟨b2, o2 + j * 13 + 6, none⟩ = some (.int .u32 r.sha.c) := hω.2.2 6 (by decide)
               have r7 : ω.cell? ⟨b2, o2 + j * 13 + 7, none⟩ = some (.int .u32 r.sha.a) := hω.2.2 7 (by decide)
               have r8 : ω.cell? ⟨b2, o2 + j * 13 + 8, none⟩ = some (.int .u32 r.sha.d) := hω.2.2 8 (by decide)
               have r9 : ω.cell? ⟨b2, o2 + j * 13 + 9, none⟩ = some (.bool r.fa) := hω.2.2 9 (by decide)
               have r10 : ω.cell? ⟨b2, o2 + j * 13 + 10, none⟩ = some (.bool r.fb) := hω.2.2 10 (by decide)
               have r11 : ω.cell? ⟨b2, o2 + j * 13 + 11, none⟩ = some (.bool r.al) := hω.2.2 11 (by decide)
               have r12 : ω.cell? ⟨b2, o2 + j * 13 + 12, none⟩ = some (.bool r.gr) := hω.2.2 12 (by decide)
               clear hω
               go_simp; rfl)) ?_
          refine wpFl_nil _ _ ?_
          simp only [Act.put, List.setIfInBounds_toArray]
          refine wpAnyJ_stepJ _ _ _ _ [14, 15] (by kernel_rfl) rfl (by kernel_rfl) ?_
          intro i hi
          simp only [List.mem_cons, List.not_mem_nil, or_false] at hi
          rcases hi with rfl | rfl
          · refine wpOp_list _ rfl ?_
            go_wp2_with fail
            refine ⟨fun _ => HJ1.out, ?_⟩
            refine wpAnyJ_stepJ _ _ _ _ [15] (by kernel_rfl) rfl (by kernel_rfl) ?_
            intro i hi
            obtain rfl : i = 15 := by simpa using hi
            refine wpOp_list _ rfl ?_
            go_wp2_with fail
            refine ⟨fun _ => by have h9 := HW2.out.1; rw [← HWE.out] at h9; exact h9, ?_⟩
            obtain ⟨u3, hu3, hl3, hl4, hb3, hb4⟩ := HTWO.out wr.heap.size (wr.heap.size + 1) #[.int .u32 f.raw.c, .int .u32 f.raw.a, .int .u32 f.raw.d, .int .u32 f.del.c, .int .u32 f.del.a, .int .u32 f.del.d, .int .u32 f.sha.c, .int .u32 f.sha.a, .int .u32 f.sha.d, .bool f.fa, .bool f.fb, .bool f.al, .bool f.gr] #[.int .u32 r.raw.c, .int .u32 r.raw.a, .int .u32 r.raw.d, .int .u32 r.del.c, .int .u32 r.del.a, .int .u32 r.del.d, .int .u32 r.sha.c, .int .u32 r.sha.a, .int .u32 r.sha.d, .bool r.fa, .bool r.fb, .bool r.al, .bool r.gr] (by omega) (by omega) (by omega) HW2.out.2.1 HW2.out.2.2
            have hW3 := HWE.out.trans hu3
            have HB3 := hid_of hb3
            have HB4 := hid_of hb4
            have hab : wr.heap.size ≠ (wr.heap.size + 1) := by omega
            have hba : (wr.heap.size + 1) ≠ wr.heap.size := by omega
            clear hb3 hb4 hu3
            refine wpAnyJ_stepJ _ _ _ _ [16] (by kernel_rfl) rfl (by kernel_rfl) ?_
            intro i hi
            obtain rfl : i = 16 := by simpa using hi
            refine wpOp_list _ rfl ?_
            have hW4 : ((wr.alloc (.cells #[.int .u32 0, .int .u32 0, .int .u32 0, .int .u32 0, .int .u32 0, .int .u32 0, .int .u32 0, .int .u32 0, .int .u32 0, .bool false, .bool false, .bool false, .bool false] 51)).alloc (.cells #[.int .u32 0, .int .u32 0, .int .u32 0, .int .u32 0, .int .u32 0, .int .u32 0, .int .u32 0, .int .u32 0, .int .u32 0, .bool false, .bool false, .bool false, .bool false] 51)).drew = put (put u3 wr.heap.size #[.int .u32 0, .int .u32 0, .int .u32 0, .int .u32 0, .int .u32 0, .int .u32 0, .int .u32 0, .int .u32 0, .int .u32 0, .bool false, .bool false, .bool false, .bool false] 51) (wr.heap.size + 1) #[.int .u32 0, .int .u32 0, .int .u32 0, .int .u32 0, .int .u32 0, .int .u32 0, .int .u32 0, .int .u32 0, .int .u32 0, .bool false, .bool false, .bool false, .bool false] 51 := hW3
            try rw [hW3]
            try rw [hW4]
            go_wp2_with fail
            refine ⟨fun _ => HB4.out, ?_⟩
            refine wpAnyJ_stepJ _ _ _ _ [17] (by kernel_rfl) rfl (by kernel_rfl) ?_
            intro i hi
            obtain rfl : i = 17 := by simpa using hi
            refine wpOp_list _ rfl ?_
            go_wp2_with fail
            refine ⟨fun _ => HB3.out, ?_⟩
            refine wpAnyJ_end _ _ _ _ (by kernel_rfl) ?_
            exact HKG.out _ _ _ _ (by kernel_rfl) HB3.out ((Blk.put_same hl3 : Blk (put u3 wr.heap.size #[.int .u32 f.raw.c, .int .u32 f.raw.a, .int .u32 f.raw.d, .int .u32 f.del.c, .int .u32 f.del.a, .int .u32 f.del.d, .int .u32 f.sha.c, .int .u32 f.sha.a, .int .u32 f.sha.d, .bool f.fa, .bool f.fb, .bool f.al, .bool f.gr] 51) wr.heap.size _ 51).put_ne hab) (Blk.put_same (by rw [put_size]; exact hl4))
          · refine wpOp_list _ rfl ?_
            go_wp2_with fail
            refine ⟨fun _ => HJ1.out, ?_⟩
            refine wpAnyJ_stepJ _ _ _ _ [14] (by kernel_rfl) rfl (by kernel_rfl) ?_
            intro i hi
            obtain rfl : i = 14 := by simpa using hi
            refine wpOp_list _ rfl ?_
            go_wp2_with fail
            refine ⟨fun _ => by have h9 := HW2.out.1; rw [← HWE.out] at h9; exact h9, ?_⟩
            obtain ⟨u3, hu3, hl3, hl4, hb3, hb4⟩ := HTWO.out (wr.heap.size + 1) wr.heap.size #[.int .u32 f.raw.c, .int .u32 f.raw.a, .int .u32 f.raw.d, .int .u32 f.del.c, .int .u32 f.del.a, .int .u32 f.del.d, .int .u32 f.sha.c, .int .u32 f.sha.a, .int .u32 f.sha.d, .bool f.fa, .bool f.fb, .bool f.al, .bool f.gr] #[.int .u32 r.raw.c, .int .u32 r.raw.a, .int .u32 r.raw.d, .int .u32 r.del.c, .int .u32 r.del.a, .int .u32 r.del.d, .int .u32 r.sha.c, .int .u32 r.sha.a, .int .u32 r.sha.d, .bool r.fa, .bool r.fb, .bool r.al, .bool r.gr] (by omega) (by omega) (by omega) HW2.out.2.2 HW2.out.2.1
            have hW3 := HWE.out.trans hu3
            have HB3 := hid_of hb3
            have HB4 := hid_of hb4
            have hab : (wr.heap.size + 1) ≠ wr.heap.size := by omega
            have hba : wr.heap.size ≠ (wr.heap.size + 1) := by omega
            clear hb3 hb4 hu3
            refine wpAnyJ_stepJ _ _ _ _ [16] (by kernel_rfl) rfl (by kernel_rfl) ?_
            intro i hi
            obtain rfl : i = 16 := by simpa using hi
            refine wpOp_list _ rfl ?_
            have hW4 : ((wr.alloc (.cells #[.int .u32 0, .int .u32 0, .int .u32 0, .int .u32 0, .int .u32 0, .int .u32 0, .int .u32 0, .int .u32 0, .int .u32 0, .bool false, .bool false, .bool false, .bool false] 51)).alloc (.cells #[.int .u32 0, .int .u32 0, .int .u32 0, .int .u32 0, .int .u32 0, .int .u32 0, .int .u32 0, .int .u32 0, .int .u32 0, .bool false, .bool false, .bool false, .bool false] 51)).drew = put (put u3 (wr.heap.size + 1) #[.int .u32 0, .int .u32 0, .int .u32 0, .int .u32 0, .int .u32 0, .int .u32 0, .int .u32 0, .int .u32 0, .int .u32 0, .bool false, .bool false, .bool false, .bool false] 51) wr.heap.size #[.int .u32 0, .int .u32 0, .int .u32 0, .int .u32 0, .int .u32 0, .int .u32 0, .int .u32 0, .int .u32 0, .int .u32 0, .bool false, .bool false, .bool false, .bool false] 51 := hW3
            try rw [hW3]
            try rw [hW4]
            go_wp2_with fail
            refine ⟨fun _ => HB4.out, ?_⟩
            refine wpAnyJ_stepJ _ _ _ _ [17] (by kernel_rfl) rfl (by kernel_rfl) ?_
            intro i hi
            obtain rfl : i = 17 := by simpa using hi
            refine wpOp_list _ rfl ?_
            go_wp2_with fail
            refine ⟨fun _ => HB3.out, ?_⟩
            refine wpAnyJ_end _ _ _ _ (by kernel_rfl) ?_
            exact HKG.out _ _ _ _ (by kernel_rfl) HB3.out ((Blk.put_same hl3 : Blk (put u3 (wr.heap.size + 1) #[.int .u32 f.raw.c, .int .u32 f.raw.a, .int .u32 f.raw.d, .int .u32 f.del.c, .int .u32 f.del.a, .int .u32 f.del.d, .int .u32 f.sha.c, .int .u32 f.sha.a, .int .u32 f.sha.d, .bool f.fa, .bool f.fb, .bool f.al, .bool f.gr] 51) (wr.heap.size + 1) _ 51).put_ne hab) (Blk.put_same (by rw [put_size]; exact hl4))
        case rest2 =>
        rintro act wd ⟨u2, ba, bb, rfl, HK⟩
        have A0 : wd.cell? ⟨ba, 0, none⟩ = some (.int .u32 f.raw.c) := HK.out.2.1.cell 0
        have A1 : wd.cell? ⟨ba, 1, none⟩ = some (.int .u32 f.raw.a) := HK.out.2.1.cell 1
        have A2 : wd.cell? ⟨ba, 2, none⟩ = some (.int .u32 f.raw.d) := HK.out.2.1.cell 2
        have A3 : wd.cell? ⟨ba, 3, none⟩ = some (.int .u32 f.del.c) := HK.out.2.1.cell 3
        have A4 : wd.cell? ⟨ba, 4, none⟩ = some (.int .u32 f.del.a) := HK.out.2.1.cell 4
        have A5 : wd.cell? ⟨ba, 5, none⟩ = some (.int .u32 f.del.d) := HK.out.2.1.cell 5
        have A6 : wd.cell? ⟨ba, 6, none⟩ = some (.int .u32 f.sha.c) := HK.out.2.1.cell 6
        have A7 : wd.cell? ⟨ba, 7, none⟩ = some (.int .u32 f.sha.a) := HK.out.2.1.cell 7
        have A8 : wd.cell? ⟨ba, 8, none⟩ = some (.int .u32 f.sha.d) := HK.out.2.1.cell 8
        have B0 : wd.cell? ⟨bb, 0, none⟩ = some (.int .u32 r.raw.c) := HK.out.2.2.cell 0
        have B1 : wd.cell? ⟨bb, 1, none⟩ = some (.int .u32 r.raw.a) := HK.out.2.2.cell 1
        have B2 : wd.cell? ⟨bb, 2, none⟩ = some (.int .u32 r.raw.d) := HK.out.2.2.cell 2
        have B3 : wd.cell? ⟨bb, 3, none⟩ = some (.int .u32 r.del.c) := HK.out.2.2.cell 3
        have B4 : wd.cell? ⟨bb, 4, none⟩ = some (.int .u32 r.del.a) := HK.out.2.2.cell 4
        have B5 : wd.cell? ⟨bb, 5, none⟩ = some (.int .u32 r.del.d) := HK.out.2.2.cell 5
        have B6 : wd.cell? ⟨bb, 6, none⟩ = some (.int .u32 r.sha.c) := HK.out.2.2.cell 6
        have B7 : wd.cell? ⟨bb, 7, none⟩ = some (.int .u32 r.sha.a) := HK.out.2.2.cell 7
        have B8 : wd.cell? ⟨bb, 8, none⟩ = some (.int .u32 r.sha.d) := HK.out.2.2.cell 8
        have h49a := eq49 f.raw r.raw
        have h49b := eq49 f.del r.del
        have h49c := eq49 f.sha r.sha
        have h49d := eq49 f.del f.sha
        generalize neB f.raw r.raw = n1 at h49a HKR
        generalize neB f.del r.del = n2 at h49b HKR
        generalize neB f.sha r.sha = n3 at h49c HKR
        generalize neB f.del f.sha = n4 at h49d HKR
        have HBW : Hid (Below w2.heap.size w2 wd) := HK.out.1
        clear HK HRD HB
        unfold fr5b
        cases n1 <;> cases n2 <;> cases n3 <;> cases n4
        all_goals
          go_wp2_with fail
          exact HKR.out _ _ _ _ (by kernel_rfl) rfl rfl HBW.out
      · have hx1 : x = -1 := by omega
        have hx0 : ¬ x ≥ 0 := by omega
        have hkv : vn = k := by omega
        subst hkv
        clear hx1 hx
        unfold fr5a
        go_wp2_with fail
        exact HKF.out _ _ x (by kernel_rfl) HB.out
    case rest1 =>
    rintro act wr ⟨u, x, rfl, HB⟩
    have hm := lst_met HUP.out
    rw [HVN.out.1] at hm
    rw [hm]
    have hsoon := met_soon HUP.out HRAW.out
    have hsame := all_same HUP.out HRE.out
    rw [HVN.out.1] at hsoon hsame
    have hCle := (lst_spec (chg (plyN s false true n).reps (plyN s false false n).reps) vn vn (Nat.le_refl _)).1.2
    generalize lst (chg (plyN s false true n).reps (plyN s false false n).reps) vn vn = C at *
    have hmle : m ≤ vn := by have := HUP.out.le; rw [HVN.out.1] at this; exact this
    have HBW : Hid (Below w.heap.size w wr) := HB2.out.trans (HB.out.mono HB2.out.size)
    have hrf : RR own wr L (plyN s false true n) := HRF.out.below HB.out
    have hrr : RR own2 wr L2 (plyN s false false n) := HRR.out.below HB.out
    have HRFw := hid_of hrf
    have HRRw := hid_of hrr
    have HFW : Hid (wr.cell? ⟨w.heap.size + 5, 22, none⟩ = some (.slice va vn vc)) := (HB.out.cell HLT.out.1).trans HF22.out
    have HRW : Hid (wr.cell? ⟨w1.heap.size + 5, 22, none⟩ = some (.slice ra vn rc)) := (HB.out.cell HLT.out.2).trans HR22.out
    have HSFw : Hid (Sl wr (.slice va vn vc) 51 13 vn ((plyN s false true n).reps.flatMap reprow)) := HSF.out.same fun k hk => HB.out.block k (HSF.out.lt k hk)
    have HSRw : Hid (Sl wr (.slice ra vn rc) 51 13 vn ((plyN s false false n).reps.flatMap reprow)) := HSR.out.same fun k hk => HB.out.block k (HSR.out.lt k hk)
    clear hm hrf hrr
    unfold fr5a
    by_cases hcv : C = vn
    · have hcb : (((C : Nat) : Int) == ((vn : Nat) : Int)) = true := by simp; omega
      have HEQ : Hid (Calls Try.prog 29 #[.slice va vn vc, .slice ra vn rc] wr.drew fun e w' => e = .returned (.bool true) ∧ ∃ q, w' = wr.drew.drewN q) := by
        have h1 : Sl wr.drew (.slice va vn vc) 51 13 (plyN s false true n).reps.length ((plyN s false true n).reps.flatMap reprow) := by rw [HVN.out.1]; exact HSFw.out
        have h2 : Sl wr.drew (.slice ra vn rc) 51 13 (plyN s false true n).reps.length ((plyN s false true n).reps.flatMap reprow) := by
          have h9 := HSRw.out
          rw [← hsame hcv] at h9
          rw [HVN.out.1]
          exact h9
        exact eqRep_yes _ _ _ wr.drew h1 h2 (by rw [HVN.out.1]; omega)
      clear hsoon hsame hCle hcv
      go_upto_region 18 with fail
      refine wp_region_float [0, 1, 2, 3, 4, 5, 6, 7] [8, 9] [0, 1, 2, 4, 5, 6] mixed (fun ω => ω.cell? ⟨w.heap.size + 5, 22, none⟩ = some (.slice va vn vc) ∧ ω.cell? ⟨w1.heap.size + 5, 22, none⟩ = some (.slice ra vn rc)) (by kernel_rfl) rfl (by kernel_rfl) ⟨HFW.out, HRW.out⟩ ?_
      iterate 8 refine wpFl_op _ _ _ _ rfl rfl (fun ω hj => by
        first
        | (go_simp; rfl)
        | (have j1 := (hj rfl).1
           have j2 := (hj rfl).2
           go_simp; rfl)) ?_
      refine wpFl_nil _ _ ?_
      simp only [Act.put, List.setIfInBounds_toArray]
      refine wpCh_rest _ _ _ _ [_, _] _ _ rfl (by kernel_rfl) ?_
      simp only [List.getElem_toArray, List.getElem_cons_succ, List.getElem_cons_zero]
      go_wp2_with fail
      refine HEQ.out.mono ?_
      rintro e w5 ⟨rfl, q, hw5⟩
      have HB5 : Hid (Below w.heap.size w w5) := by rw [hw5]; exact below_drewN' (show Below w.heap.size w wr.drew from ⟨HBW.out.os, HBW.out.tape, HBW.out.output, HBW.out.size, HBW.out.block⟩)
      clear HEQ hw5
      go_wp2_with fail
      go_ret
      exact ⟨rfl, HB5.out⟩
    · have hcb : (((C : Nat) : Int) == ((vn : Nat) : Int)) = false := by simp; omega
      have hadd2 : IntKind.i64.wrap (((C : Nat) : Int) + 2) = (C : Nat) + 2 := by simp [IntKind.wrap, IntKind.bits, IntKind.signed]; omega
      have hngt : ¬ ((m : Nat) : Int) > (C : Nat) + 2 := by omega
      have g22 := HFW.out
      clear hsoon hsame hCle hcv
      go_wp2_with fail
      clear g22 hngt hadd2 hcb
      refine q_of (Q := fun a => (Code.loop _).wp Try.prog _ a _) (F := fr5c a n c (w.heap.size + 5) (w1.heap.size + 5) vn C m va vc 0) (fun u0 => ?_) _ (by kernel_rfl)
      refine wp_loop (fun act wq => ∃ (u : Nat → Value) (j : Nat), act = fr5c a n c (w.heap.size + 5) (w1.heap.size + 5) vn C m va vc j u ∧ j ≤ vn ∧ Hid (Below wr.heap.size wr wq)) (fun act _ => vn - (intOf (act.tmps.getD 113 undef)).toNat) ⟨u0, 0, rfl, Nat.zero_le _, Below.refl _ _⟩ ?_
      rintro act wz ⟨u1, j, rfl, hj, HBz⟩
      have hadd : IntKind.i64.wrap (((j : Nat) : Int) + 1) = (j : Nat) + 1 := by simp [IntKind.wrap, IntKind.bits, IntKind.signed]; omega
      by_cases hjn : j < vn
      · have hji : ((j : Nat) : Int) < (vn : Nat) := by omega
        obtain ⟨f, hf⟩ : ∃ f, (plyN s false true n).reps[j]? = some f := ⟨_, List.getElem?_eq_getElem (by rw [HVN.out.1]; exact hjn)⟩
        obtain ⟨r, hr⟩ : ∃ r, (plyN s false false n).reps[j]? = some r := ⟨_, List.getElem?_eq_getElem (by rw [HVN.out.2]; exact hjn)⟩
        obtain ⟨b1, o1, c1', e1, _, hl1⟩ := HSFw.out.form (by omega)
        obtain ⟨b2, o2, c2', e2, _, hl2⟩ := HSRw.out.form (by omega)
        injection e1 with e1 _ e3
        injection e2 with e2 _ e4
        subst e1; subst e3; subst e2; subst e4
        obtain ⟨KR, hKR⟩ : ∃ KR : Act → World → Prop, KR = fun a' w' => ((fun act wq => ∃ (u : Nat → Value) (j : Nat), act = fr5c a n c (w.heap.size + 5) (w1.heap.size + 5) vn C m (some ⟨b1, o1, none⟩) vc j u ∧ j ≤ vn ∧ Hid (Below wr.heap.size wr wq)) a' w' ∧ vn - (intOf (a'.tmps.getD 113 undef)).toNat < vn - (intOf ((fr5c a n c (w.heap.size + 5) (w1.heap.size + 5) vn C m (some ⟨b1, o1, none⟩) vc j u1).tmps.getD 113 undef)).toNat) := ⟨_, rfl⟩
        have HKR : Hid (∀ (act : Act) (w' : World), act = fr5c a n c (w.heap.size + 5) (w1.heap.size + 5) vn C m (some ⟨b1, o1, none⟩) vc (j + 1) (fun i => act.tmps.getD i undef) → Below wr.heap.size wr w' → KR act w') := fun act w' e hb => by
          rw [hKR]
          refine ⟨⟨_, j + 1, e, hjn, hb⟩, ?_⟩
          have e1 : act.tmps.getD 113 undef = .int .i64 ((j + 1 : Nat) : Int) := by rw [e]; rfl
          have e2 : (fr5c a n c (w.heap.size + 5) (w1.heap.size + 5) vn C m (some ⟨b1, o1, none⟩) vc j u1).tmps.getD 113 undef = .int .i64 ((j : Nat) : Int) := rfl
          simp only [e1, e2, intOf]
          omega
        rw [← hKR]
        clear hKR
        have p := fun i hi => (HBz.out.cell (p := ⟨b1, o1 + j * 13 + i, none⟩) hl1).trans (Sl.rowc (f := reprow) (m := 13) (fun _ => rfl) HSFw.out rfl hf i hi)
        have p0 : wz.cell? ⟨b1, o1 + j * 13, none⟩ = some (.int .u32 f.raw.c) := p 0 (by decide)
        have p1 : wz.cell? ⟨b1, o1 + j * 13 + 1, none⟩ = some (.int .u32 f.raw.a) := p 1 (by decide)
        have p2 : wz.cell? ⟨b1, o1 + j * 13 + 2, none⟩ = some (.int .u32 f.raw.d) := p 2 (by decide)
        have p3 : wz.cell? ⟨b1, o1 + j * 13 + 3, none⟩ = some (.int .u32 f.del.c) := p 3 (by decide)
        have p4 : wz.cell? ⟨b1, o1 + j * 13 + 4, none⟩ = some (.int .u32 f.del.a) := p 4 (by decide)
        have p5 : wz.cell? ⟨b1, o1 + j * 13 + 5, none⟩ = some (.int .u32 f.del.d) := p 5 (by decide)
        have p6 : wz.cell? ⟨b1, o1 + j * 13 + 6, none⟩ = some (.int .u32 f.sha.c) := p 6 (by decide)
        have p7 : wz.cell? ⟨b1, o1 + j * 13 + 7, none⟩ = some (.int .u32 f.sha.a) := p 7 (by decide)
        have p8 : wz.cell? ⟨b1, o1 + j * 13 + 8, none⟩ = some (.int .u32 f.sha.d) := p 8 (by decide)
        have p9 : wz.cell? ⟨b1, o1 + j * 13 + 9, none⟩ = some (.bool f.fa) := p 9 (by decide)
        have p10 : wz.cell? ⟨b1, o1 + j * 13 + 10, none⟩ = some (.bool f.fb) := p 10 (by decide)
        have p11 : wz.cell? ⟨b1, o1 + j * 13 + 11, none⟩ = some (.bool f.al) := p 11 (by decide)
        have p12 : wz.cell? ⟨b1, o1 + j * 13 + 12, none⟩ = some (.bool f.gr) := p 12 (by decide)
        obtain ⟨W, hW⟩ : ∃ W, wz.alloc (.cells #[.int .u32 f.raw.c, .int .u32 f.raw.a, .int .u32 f.raw.d, .int .u32 f.del.c, .int .u32 f.del.a, .int .u32 f.del.d, .int .u32 f.sha.c, .int .u32 f.sha.a, .int .u32 f.sha.d, .bool f.fa, .bool f.fb, .bool f.al, .bool f.gr] 51) = W := ⟨_, rfl⟩
        have hbw : Below wz.heap.size wz W := by rw [← hW]; exact (Below.refl _ _).alloc (Nat.le_refl _) _
        have hop : Blk W wz.heap.size #[.int .u32 f.raw.c, .int .u32 f.raw.a, .int .u32 f.raw.d, .int .u32 f.del.c, .int .u32 f.del.a, .int .u32 f.del.d, .int .u32 f.sha.c, .int .u32 f.sha.a, .int .u32 f.sha.d, .bool f.fa, .bool f.fb, .bool f.al, .bool f.gr] 51 := by rw [← hW]; exact Blk.new _ _ _
        have hbe : Below wr.heap.size wr W := HBz.out.trans (hbw.mono HBz.out.size)
        have HBE : Hid (∀ q, Below wr.heap.size wr (W.drewN q)) := fun q => below_drewN' hbe
        have y3 : W.cell? ⟨wz.heap.size, 3, none⟩ = some (.int .u32 f.del.c) := hop.cell 3
        have y4 : W.cell? ⟨wz.heap.size, 4, none⟩ = some (.int .u32 f.del.a) := hop.cell 4
        have y5 : W.cell? ⟨wz.heap.size, 5, none⟩ = some (.int .u32 f.del.d) := hop.cell 5
        have y9 : W.cell? ⟨wz.heap.size, 9, none⟩ = some (.bool f.fa) := hop.cell 9
        have y10 : W.cell? ⟨wz.heap.size, 10, none⟩ = some (.bool f.fb) := hop.cell 10
        have y11 : W.cell? ⟨wz.heap.size, 11, none⟩ = some (.bool f.al) := hop.cell 11
        have y12 : W.cell? ⟨wz.heap.size, 12, none⟩ = some (.bool f.gr) := hop.cell 12
        by_cases hjm : j < m
        · have hjmi : ((j : Nat) : Int) < (m : Nat) := by omega
          have hsm := HUP.out.same j f r hjm hf hr
          have g22r : W.cell? ⟨w1.heap.size + 5, 22, none⟩ = some (.slice (some ⟨b2, o2, none⟩) vn rc) := (hbe.cell (World.block_lt_of_cell? _ _ HRW.out)).trans HRW.out
          have x := fun i hi => (hbe.cell (p := ⟨b2, o2 + j * 13 + i, none⟩) hl2).trans (Sl.rowc (f := reprow) (m := 13) (fun _ => rfl) HSRw.out rfl hr i hi)
          have x3 : W.cell? ⟨b2, o2 + j * 13 + 3, none⟩ = some (.int .u32 f.del.c) := by rw [hsm.del]; exact x 3 (by decide)
          have x4 : W.cell? ⟨b2, o2 + j * 13 + 3 + 1, none⟩ = some (.int .u32 f.del.a) := by rw [hsm.del]; exact x 4 (by decide)
          have x5 : W.cell? ⟨b2, o2 + j * 13 + 3 + 2, none⟩ = some (.int .u32 f.del.d) := by rw [hsm.del]; exact x 5 (by decide)
          have x12 : W.cell? ⟨b2, o2 + j * 13 + 12, none⟩ = some (.bool f.gr) := by rw [hsm.gr]; exact x 12 (by decide)
          have h49 := eq49 f.del f.del
          rw [neB_self] at h49
          rw [hsm.al.1] at y11
          clear x hsm hf hr p hbw hop hbe
          cases hg : f.gr
          · rw [hg] at y12 x12
            clear hg
            unfold fr5c
            go_upto_region 25 with fail
            clear hW p0 p1 p2 p3 p4 p5 p6 p7 p8 p9 p10 p11 p12
            go_quiet (fail)
            go_wp2_with fail
            exact HKR.out _ _ (by kernel_rfl) (HBE.out _)
          · rw [hg] at y12 x12
            clear hg
            unfold fr5c
            go_upto_region 25 with fail
            clear hW p0 p1 p2 p3 p4 p5 p6 p7 p8 p9 p10 p11 p12
            go_quiet (fail)
            go_wp2_with fail
            exact HKR.out _ _ (by kernel_rfl) (HBE.out _)
        · have hjmi : ¬ ((j : Nat) : Int) < (m : Nat) := by omega
          have hsh := HUP.out.shut j f (by omega) hf
          rw [hsh.1] at y11
          rw [hsh.2] at y12
          by_cases hje : j = m
          · have hat := HUP.out.at_ f (by rw [← hje]; exact hf)
            rw [hat.2.1] at y9
            rw [hat.2.2] at y10
            have hjb : (((j : Nat) : Int) == ((m : Nat) : Int)) = true := by simp; omega
            clear hat hsh hf hr p hbw hop hbe hje
            unfold fr5c
            go_upto_region 24 with fail
            clear hW p0 p1 p2 p3 p4 p5 p6 p7 p8 p9 p10 p11 p12
            go_wp2_with fail
            exact HKR.out _ _ (by kernel_rfl) (HBE.out 0)
          · have hjb : (((j : Nat) : Int) == ((m : Nat) : Int)) = false := by simp; omega
            clear hsh hf hr p hbw hop hbe hje
            unfold fr5c
            go_upto_region 24 with fail
            clear hW p0 p1 p2 p3 p4 p5 p6 p7 p8 p9 p10 p11 p12
            go_wp2_with fail
            exact HKR.out _ _ (by kernel_rfl) (HBE.out 0)
      · have hji : ¬ ((j : Nat) : Int) < (vn : Nat) := by omega
        have hf2 : RR own wz L (plyN s false true n) := HRFw.out.below HBz.out
        have hr2 : RR own2 wz L2 (plyN s false false n) := HRRw.out.below HBz.out
        have HJ : Hid (∀ ω, Below wz.heap.size wz ω → (ω.cell? ⟨w.heap.size + 5, 2, none⟩ = some (.pointer (some ⟨L.ubP, 0, none⟩)) ∧ ω.cell? ⟨w1.heap.size + 5, 2, none⟩ = some (.pointer (some ⟨L2.ubP, 0, none⟩))) ∧ UB ω L.ubP L.mbP L.lvP L.gvP (plyN s false true n).uP ∧ UB ω L2.ubP L2.mbP L2.lvP L2.gvP (plyN s false false n).uP) := fun ω hω => by
          have k1 := hf2.below hω
          have k2 := hr2.below hω
          exact ⟨⟨by rw [← HL1.out]; exact k1.rg.1.cell 2, by rw [← HL2.out]; exact k2.rg.1.cell 2⟩, k1.uP.u, k2.uP.u⟩
        have HP : Hid (Calls Try.prog 16 #[L.gvP, L2.gvP] wz.drew fun e w' => e = .returned (.bool true) ∧ Below wz.drew.heap.size wz.drew w') := by
          obtain ⟨y, hy⟩ := HPX.out
          have h9 := hr2.drew.uP.u.log
          rw [hy] at h9
          exact isPre_yes L.gvP L2.gvP _ y wz.drew hf2.drew.uP.u.log h9 (by rw [← hy]; have := HLEN.out.2.2; omega)
        have HBF : Hid (Below w.heap.size w wz) := HBW.out.trans (HBz.out.mono HBW.out.size)
        clear hf2 hr2
        unfold fr5c
        go_upto_region 32 with fail
        refine wp_region_float [0, 1, 2, 3, 4, 5, 6, 7, 8, 9] [10, 11] [0, 1, 2, 5, 6, 7] mixed (fun ω => Below wz.heap.size wz ω) (by kernel_rfl) rfl (by kernel_rfl) ⟨rfl, rfl, rfl, Nat.le_refl _, fun _ _ => rfl⟩ ?_
        iterate 3 refine wpFl_op _ _ _ _ rfl rfl (fun ω hj => by go_simp; rfl) ?_
        refine wpFl_op _ _ _ _ rfl rfl (fun ω hj => by have j1 := (HJ.out ω (hj rfl)).1.1; go_simp; rfl) ?_
        refine wpFl_call _ _ _ _ 13 #[.pointer (some ⟨L.ubP, 0, none⟩)] rfl rfl (fun ω => by first | (go_simp; done) | (go_simp; rfl)) (fun ω hj => log_any L.ubP L.mbP L.lvP L.gvP _ ω (HJ.out ω (hj rfl)).2.1) ?_
        iterate 3 refine wpFl_op _ _ _ _ rfl rfl (fun ω hj => by go_simp; rfl) ?_
        refine wpFl_op _ _ _ _ rfl rfl (fun ω hj => by have j1 := (HJ.out ω (hj rfl)).1.2; go_simp; rfl) ?_
        refine wpFl_call _ _ _ _ 13 #[.pointer (some ⟨L2.ubP, 0, none⟩)] rfl rfl (fun ω => by first | (go_simp; done) | (go_simp; rfl)) (fun ω hj => log_any L2.ubP L2.mbP L2.lvP L2.gvP _ ω (HJ.out ω (hj rfl)).2.2) ?_
        refine wpFl_nil _ _ ?_
        simp only [Act.put, List.setIfInBounds_toArray]
        refine wpCh_rest _ _ _ _ [_, _] _ _ rfl (by kernel_rfl) ?_
        simp only [List.getElem_toArray, List.getElem_cons_succ, List.getElem_cons_zero]
        go_wp2_with fail
        refine HP.out.mono ?_
        rintro e w5 ⟨rfl, hb5⟩
        have HB5 : Hid (Below w.heap.size w w5) := HBF.out.trans ((show Below wz.heap.size wz w5 from ⟨hb5.os, hb5.tape, hb5.output, hb5.size, hb5.block⟩).mono HBF.out.size)
        clear HP hb5
        go_wp2_with fail
        go_ret
        exact ⟨rfl, HB5.out⟩
  · have HSM := hid_of (small_no a n c hn w)
    clear hs hn
    go_enter Try.func5, Try.ntmps5
    go_wp2_with fail
    refine HSM.out.mono ?_
    rintro e w0 ⟨rfl, hw0⟩
    obtain rfl := hw0.symm
    go_wp2_with fail
    go_ret
    exact ⟨rfl, Below.refl _ _⟩
end Go.Proofs.Qxb6500749a
