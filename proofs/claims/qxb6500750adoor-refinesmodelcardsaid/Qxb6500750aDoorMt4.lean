import Derived.Test.Qxb6500750aDoorMt3
import Derived.Test.Qxb6500750aDoorMr4
namespace Go.Proofs.Qxb6500750aDoor
open Go.RowKit
/-! ### The machine's tick: who wins -/
/-- The winner by turn, when the last i places in turn have been looked at. -/
def wA (f : Nat → Bool) (tu : Nat) : Nat → Int
  | 0 => -1
  | i + 1 => if f ((tu + (2 - i)) % 3) = true then (((tu + (2 - i)) % 3 : Nat) : Int) else wA f tu i
def winF (f : Nat → Bool) (pk tu : Nat) : Int := if pk < 3 ∧ f pk = true then (pk : Nat) else wA f tu 3
set_option linter.unusedSimpArgs false in
theorem winF_eq (f : Nat → Bool) (pk tu : Nat) (hp : pk < 4) (ht : tu < 3) : winF f pk tu = if wv f = 0 then (-1 : Int) else ((cho f pk tu : Nat) : Int) := by
  have h3 : tu = 0 ∨ tu = 1 ∨ tu = 2 := by omega
  have h4 : pk = 0 ∨ pk = 1 ∨ pk = 2 ∨ pk = 3 := by omega
  unfold winF wA wA wA wA wv cho
  rcases h3 with rfl | rfl | rfl <;> rcases h4 with rfl | rfl | rfl | rfl <;> cases h0 : f 0 <;> cases h1 : f 1 <;> cases h2 : f 2 <;> simp [h0, h1, h2]
theorem winF_range (f : Nat → Bool) (pk tu : Nat) (hp : pk < 4) (ht : tu < 3) : winF f pk tu = -1 ∨ ∃ m : Nat, m < 3 ∧ winF f pk tu = (m : Nat) := by
  rw [winF_eq f pk tu hp ht]
  by_cases h : wv f = 0
  · left; rw [if_pos h]
  · right; rw [if_neg h]; exact ⟨_, cho_lt _ _ _ ht, rfl⟩
/-- How candidates and goals say who wants the target t. -/
def Says (cand : Nat → Value) (goal : Nat → Int) (f : Nat → Bool) (t : Nat) : Prop :=
  ∀ m, m < 3 → (cand m = .pointer none ∧ f m = false) ∨ (∃ T : Nat, cand m = .pointer (some ⟨T, 0, none⟩) ∧ ((goal m = (t : Nat) ∧ f m = true) ∨ (goal m ≠ (t : Nat) ∧ f m = false)))
attribute [local go_sem] put_size put_cell_same put_cell_ne put_frozen_same put_frozen_ne put_setCell_same put_setCell_ne put_drew
attribute [local go_sem] drewN_setCell drewN_alloc drewN_put upd_same upd_upd
def fr38e (mb n : Nat) (p : Int) (cb gb t : Nat) (wi : Int) (i : Nat) (u : Nat → Value) : Act :=
  { tmps := ((.pointer (some ⟨mb, 0, none⟩)) :: (.int .u32 p) :: (u 2) :: (u 3) :: (.pointer (some ⟨n, 0, none⟩)) :: (.pointer (some ⟨n + 1, 0, none⟩)) :: (u 6) :: (u 7) :: (.pointer (some ⟨cb, 0, none⟩)) :: (u 9) :: (u 10) :: (u 11) :: (u 12) :: (.pointer (some ⟨gb, 0, none⟩)) :: (u 14) :: (u 15) :: (.int .i64 (t : Nat)) :: (.pointer (some ⟨mb, 12 + t * 9, none⟩)) :: (.int .i64 wi) :: (.int .i64 (2 - (i : Nat))) :: (u 20) :: (u 21) :: (u 22) :: (u 23) :: (u 24) :: (u 25) :: (u 26) :: (u 27) :: (u 28) :: (u 29) :: (u 30) :: (u 31) :: (u 32) :: (u 33) :: (u 34) :: (u 35) :: (u 36) :: (u 37) :: (u 38) :: (u 39) :: (u 40) :: (u 41) :: (u 42) :: (u 43) :: (u 44) :: (u 45) :: (u 46) :: (u 47) :: (u 48) :: (u 49) :: (u 50) :: (u 51) :: (u 52) :: (u 53) :: (u 54) :: (u 55) :: (u 56) :: (u 57) :: (u 58) :: (u 59) :: (u 60) :: (u 61) :: (u 62) :: (u 63) :: (u 64) :: (u 65) :: (u 66) :: (u 67) :: (u 68) :: (u 69) :: (u 70) :: (u 71) :: (u 72) :: (u 73) :: (u 74) :: (u 75) :: (u 76) :: (u 77) :: (u 78) :: (u 79) :: (u 80) :: (u 81) :: (u 82) :: (u 83) :: (u 84) :: (u 85) :: (u 86) :: (u 87) :: (u 88) :: (u 89) :: (.int .i64 (t : Nat)) :: (u 91) :: (u 92) :: (u 93) :: (u 94) :: (u 95) :: (u 96) :: (u 97) :: (u 98) :: (u 99) :: (u 100) :: (u 101) :: (u 102) :: (u 103) :: (u 104) :: (u 105) :: (u 106) :: (u 107) :: (u 108) :: (u 109) :: (u 110) :: (u 111) :: (u 112) :: (u 113) :: (u 114) :: (u 115) :: (u 116) :: (u 117) :: (u 118) :: (u 119) :: (u 120) :: (u 121) :: (u 122) :: (u 123) :: (u 124) :: (u 125) :: (u 126) :: (u 127) :: (u 128) :: (u 129) :: (u 130) :: (u 131) :: (u 132) :: (u 133) :: (u 134) :: (u 135) :: (u 136) :: (u 137) :: (u 138) :: (u 139) :: (u 140) :: (u 141) :: (u 142) :: (u 143) :: (u 144) :: (u 145) :: (u 146) :: (u 147) :: (u 148) :: (u 149) :: (u 150) :: (u 151) :: (u 152) :: (u 153) :: (u 154) :: (u 155) :: (u 156) :: (u 157) :: (u 158) :: (u 159) :: (u 160) :: (u 161) :: (u 162) :: (u 163) :: (u 164) :: (u 165) :: (u 166) :: (u 167) :: (u 168) :: (u 169) :: (u 170) :: (u 171) :: (u 172) :: (u 173) :: (u 174) :: (u 175) :: (u 176) :: (u 177) :: (u 178) :: (u 179) :: (u 180) :: (u 181) :: (u 182) :: (u 183) :: (u 184) :: (u 185) :: (u 186) :: (u 187) :: (u 188) :: (u 189) :: (u 190) :: (u 191) :: (u 192) :: (u 193) :: (u 194) :: (u 195) :: (u 196) :: (u 197) :: (u 198) :: (u 199) :: (u 200) :: (u 201) :: (u 202) :: (u 203) :: (u 204) :: (u 205) :: (u 206) :: (u 207) :: (u 208) :: (u 209) :: (u 210) :: (u 211) :: (u 212) :: (u 213) :: (u 214) :: (u 215) :: (u 216) :: (u 217) :: (u 218) :: (u 219) :: (u 220) :: [] : List Value).toArray, defers := [] }

set_option maxRecDepth 100000 in
set_option maxHeartbeats 4000000 in
theorem lp38_4i {mb n cb gb t : Nat} (_ht : t < 7) {cand : Nat → Value} {goal : Nat → Int} {f : Nat → Bool} (hS : Says cand goal f t) (tu : Nat) (htu : tu < 3) (w : World) (p : Int)
    (hc : ∀ m, m < 3 → w.cell? ⟨cb, m, none⟩ = some (cand m)) (hg : ∀ m, m < 3 → w.cell? ⟨gb, m, none⟩ = some (.int .i64 (goal m))) (h7 : w.cell? ⟨mb, 12 + t * 9 + 7, none⟩ = some (.int .i64 (tu : Nat))) (u0 : Nat → Value) (Q : Exit → Act → World → Prop)
    (hQ : ∀ u, Q (.exit 10) (fr38e mb n p cb gb t (wA f tu 3) 3 u) w) (body : Code) (hbody : body = (loopsOf (((Tryd.f38.body.map loopsOf).getD []).getD 3 .skip)).getD 0 .skip) :
    (Code.loop body).wp Tryd.prog Q (fr38e mb n p cb gb t (-1) 0 u0) w := by
  subst hbody
  conv => arg 2; arg 1; whnf
  refine wp_loop (fun act wr => ∃ (u : Nat → Value) (i : Nat), act = fr38e mb n p cb gb t (wA f tu i) i u ∧ i ≤ 3 ∧ wr = w) (fun act _ => (intOf (act.tmps.getD 19 undef) + 1).toNat) ?start ?round
  case start => exact ⟨u0, 0, rfl, by omega, rfl⟩
  case round =>
    rintro a0 wr ⟨u, i, rfl, hi, hwr⟩
    obtain rfl := hwr.symm
    obtain ⟨KR, hKR⟩ : ∃ KR : Act → World → Prop, KR = fun a' w' => ((fun act wr => ∃ (u : Nat → Value) (i : Nat), act = fr38e mb n p cb gb t (wA f tu i) i u ∧ i ≤ 3 ∧ wr = w) a' w' ∧ (intOf (a'.tmps.getD 19 undef) + 1).toNat < (intOf ((fr38e mb n p cb gb t (wA f tu i) i u).tmps.getD 19 undef) + 1).toNat) := ⟨_, rfl⟩
    have HKR : Hid (∀ (act : Act), act = fr38e mb n p cb gb t (wA f tu (i + 1)) (i + 1) (fun i => act.tmps.getD i undef) → i < 3 → KR act w) := fun act e hi3 => by
      rw [hKR]
      refine ⟨⟨_, i + 1, e, hi3, rfl⟩, ?_⟩
      have e1 : act.tmps.getD 19 undef = .int .i64 (2 - ((i + 1 : Nat) : Int)) := by rw [e]; rfl
      have e2 : (fr38e mb n p cb gb t (wA f tu i) i u).tmps.getD 19 undef = .int .i64 (2 - ((i : Nat) : Int)) := rfl
      simp only [e1, e2, intOf]
      omega
    rw [← hKR]
    clear hKR
    have HQ := hid_of hQ
    by_cases hi3 : i < 3
    · obtain ⟨m, hm⟩ : ∃ m, (tu + (2 - i)) % 3 = m := ⟨_, rfl⟩
      have hm3 : m < 3 := by omega
      have hmi : ((m : Nat) : Int) < 3 := by omega
      have hcm := hc m hm3
      have hgm := hg m hm3
      have hSm := hS m hm3
      have HW : Hid (wA f tu (i + 1) = if f m = true then ((m : Nat) : Int) else wA f tu i) := by unfold Hid; rw [← hm]; rfl
      obtain ⟨wi, hwi⟩ : ∃ wi, wA f tu i = wi := ⟨_, rfl⟩
      rw [hwi] at HW ⊢
      clear hQ hc hg hS hwi HQ
      unfold fr38e
      have hrem : ∀ k : Int, k = 2 - (i : Nat) → (((tu : Nat) : Int) + k).tmod 3 = (m : Nat) := fun k hk => by
        rw [Int.tmod_eq_emod_of_nonneg (by omega)]; omega
      have h012 : i = 0 ∨ i = 1 ∨ i = 2 := by omega
      rcases hSm with ⟨hcv, hf⟩ | ⟨T, hcv, ⟨hgo, hf⟩ | ⟨hgo, hf⟩⟩
      · rw [hcv] at hcm
        have HW' : Hid (wA f tu (i + 1) = wi) := by unfold Hid; rw [HW.out, hf]; rfl
        rw [HW'.out] at HKR
        clear hf HW HW' hcv hm
        rcases h012 with rfl | rfl | rfl
        · have hr := hrem 2 (by omega)
          clear hrem
          go_wp2_with fail
          exact HKR.out _ (by kernel_rfl) hi3
        · have hr := hrem 1 (by omega)
          clear hrem
          go_wp2_with fail
          exact HKR.out _ (by kernel_rfl) hi3
        · have hr := hrem 0 (by omega)
          rw [Int.add_zero] at hr
          clear hrem
          go_wp2_with fail
          exact HKR.out _ (by kernel_rfl) hi3
      · rw [hcv] at hcm
        rw [hgo] at hgm
        have HW' : Hid (wA f tu (i + 1) = ((m : Nat) : Int)) := by unfold Hid; rw [HW.out, hf]; rfl
        rw [HW'.out] at HKR
        clear hf HW HW' hcv hm hgo
        rcases h012 with rfl | rfl | rfl
        · have hr := hrem 2 (by omega)
          clear hrem
          go_wp2_with fail
          exact HKR.out _ (by kernel_rfl) hi3
        · have hr := hrem 1 (by omega)
          clear hrem
          go_wp2_with fail
          exact HKR.out _ (by kernel_rfl) hi3
        · have hr := hrem 0 (by omega)
          rw [Int.add_zero] at hr
          clear hrem
          go_wp2_with fail
          exact HKR.out _ (by kernel_rfl) hi3
      · rw [hcv] at hcm
        have HW' : Hid (wA f tu (i + 1) = wi) := by unfold Hid; rw [HW.out, hf]; rfl
        rw [HW'.out] at HKR
        have hgn : (goal m == ((t : Nat) : Int)) = false := by simpa using hgo
        clear hf HW HW' hcv hm hgo
        rcases h012 with rfl | rfl | rfl
        · have hr := hrem 2 (by omega)
          clear hrem
          go_wp2_with fail
          exact HKR.out _ (by kernel_rfl) hi3
        · have hr := hrem 1 (by omega)
          clear hrem
          go_wp2_with fail
          exact HKR.out _ (by kernel_rfl) hi3
        · have hr := hrem 0 (by omega)
          rw [Int.add_zero] at hr
          clear hrem
          go_wp2_with fail
          exact HKR.out _ (by kernel_rfl) hi3
    · have HE : i = 3 := by omega
      subst HE
      clear hQ hc hg hS
      obtain ⟨wi, hwi⟩ : ∃ wi, wA f tu 3 = wi := ⟨_, rfl⟩
      rw [hwi] at HQ ⊢
      clear hwi
      unfold fr38e
      go_wp2_with fail
      exact q_of (Q := fun a => Q (.exit 10) a w) (F := fr38e mb n p cb gb t wi 3) (fun u => HQ.out u) _ (by kernel_rfl)
end Go.Proofs.Qxb6500750aDoor
