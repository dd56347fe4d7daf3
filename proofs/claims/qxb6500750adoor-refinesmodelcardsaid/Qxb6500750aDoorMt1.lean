import Derived.Test.Qxb6500750aDoorMcl
import Derived.BigQuiet
namespace Go.Proofs.Qxb6500750aDoor
open Go.RowKit
attribute [local go_sem] put_size put_cell_same put_cell_ne put_frozen_same put_frozen_ne put_setCell_same put_setCell_ne put_drew
attribute [local go_sem] drewN_setCell drewN_alloc drewN_put upd_same upd_upd
attribute [local go_sem] mg_q mg_ac mg_tk mg_ba mg_wm mg_pv mg_av mg_sv mg_lf mg_en mg_rd mg_tu mg_is ms_q ms_ac ms_tk ms_ba ms_wm ms_pv ms_av ms_sv ms_lf ms_en ms_rd ms_tu ms_is
/-! ### The machine's tick: the first loop -/
theorem q_of {Q : Act → Prop} {F : (Nat → Value) → Act} (hQ : ∀ u, Q (F u)) (act : Act) (e : act = F (fun i => act.tmps.getD i undef)) : Q act := by rw [e]; exact hQ _
def loopsOf : Code → List Code
  | .loop c => [c]
  | .seq a b => loopsOf a ++ loopsOf b
  | .block _ c => loopsOf c
  | .scope c => loopsOf c
  | .cond _ a b => loopsOf a ++ loopsOf b
  | _ => []
def fr38a (mb n : Nat) (p : Int) (k : Nat) (u : Nat → Value) : Act :=
  { tmps := ((.pointer (some ⟨mb, 0, none⟩)) :: (.int .u32 p) :: (u 2) :: (u 3) :: (.pointer (some ⟨n, 0, none⟩)) :: (.pointer (some ⟨n + 1, 0, none⟩)) :: (u 6) :: (u 7) :: (u 8) :: (u 9) :: (u 10) :: (u 11) :: (u 12) :: (u 13) :: (u 14) :: (u 15) :: (u 16) :: (u 17) :: (u 18) :: (u 19) :: (u 20) :: (u 21) :: (u 22) :: (u 23) :: (.int .i64 (k : Nat)) :: (u 25) :: (u 26) :: (u 27) :: (u 28) :: (u 29) :: (u 30) :: (u 31) :: (u 32) :: (u 33) :: (u 34) :: (u 35) :: (u 36) :: (u 37) :: (u 38) :: (u 39) :: (u 40) :: (u 41) :: (u 42) :: (u 43) :: (u 44) :: (u 45) :: (u 46) :: (u 47) :: (u 48) :: (u 49) :: (u 50) :: (u 51) :: (u 52) :: (u 53) :: (u 54) :: (u 55) :: (u 56) :: (u 57) :: (u 58) :: (u 59) :: (u 60) :: (u 61) :: (u 62) :: (u 63) :: (u 64) :: (u 65) :: (u 66) :: (u 67) :: (u 68) :: (u 69) :: (u 70) :: (u 71) :: (u 72) :: (u 73) :: (u 74) :: (u 75) :: (u 76) :: (u 77) :: (u 78) :: (u 79) :: (u 80) :: (u 81) :: (u 82) :: (u 83) :: (u 84) :: (u 85) :: (u 86) :: (u 87) :: (u 88) :: (u 89) :: (u 90) :: (u 91) :: (u 92) :: (u 93) :: (u 94) :: (u 95) :: (u 96) :: (u 97) :: (u 98) :: (u 99) :: (u 100) :: (u 101) :: (u 102) :: (u 103) :: (u 104) :: (u 105) :: (u 106) :: (u 107) :: (u 108) :: (u 109) :: (u 110) :: (u 111) :: (u 112) :: (u 113) :: (u 114) :: (u 115) :: (u 116) :: (u 117) :: (u 118) :: (u 119) :: (u 120) :: (u 121) :: (u 122) :: (u 123) :: (u 124) :: (u 125) :: (u 126) :: (u 127) :: (u 128) :: (u 129) :: (u 130) :: (u 131) :: (u 132) :: (u 133) :: (u 134) :: (u 135) :: (u 136) :: (u 137) :: (u 138) :: (u 139) :: (u 140) :: (u 141) :: (u 142) :: (u 143) :: (u 144) :: (u 145) :: (u 146) :: (u 147) :: (u 148) :: (u 149) :: (u 150) :: (u 151) :: (u 152) :: (u 153) :: (u 154) :: (u 155) :: (u 156) :: (u 157) :: (u 158) :: (u 159) :: (u 160) :: (u 161) :: (u 162) :: (u 163) :: (u 164) :: (u 165) :: (u 166) :: (u 167) :: (u 168) :: (u 169) :: (u 170) :: (u 171) :: (u 172) :: (u 173) :: (u 174) :: (u 175) :: (u 176) :: (u 177) :: (u 178) :: (u 179) :: (u 180) :: (u 181) :: (u 182) :: (u 183) :: (u 184) :: (u 185) :: (u 186) :: (u 187) :: (u 188) :: (u 189) :: (u 190) :: (u 191) :: (u 192) :: (u 193) :: (u 194) :: (u 195) :: (u 196) :: (u 197) :: (u 198) :: (u 199) :: (u 200) :: (u 201) :: (u 202) :: (u 203) :: (u 204) :: (u 205) :: (u 206) :: (u 207) :: (u 208) :: (u 209) :: (u 210) :: (u 211) :: (u 212) :: (u 213) :: (u 214) :: (u 215) :: (u 216) :: (u 217) :: (u 218) :: (u 219) :: (u 220) :: [] : List Value).toArray, defers := [] }

set_option maxRecDepth 100000 in
set_option maxHeartbeats 4000000 in
theorem lp38_1 {N : Int} {A : Nat} {σ : SS} (hX : XInv N A σ) (hC : Clean σ.x) (hA : A + 14 < 1000000000) {own : Nat → Nat} {W0 w : World} {mb n : Nat} {tb : Nat → Int → Nat} (p : Int) (h0 : L1 own W0 mb (n + 1) tb σ 0 w) (u0 : Nat → Value) (Q : Exit → Act → World → Prop)
    (hQ : ∀ u wr, L1 own W0 mb (n + 1) tb σ 7 wr → Q (.exit 0) (fr38a mb n p 7 u) wr) (body : Code) (hbody : body = ((Tryd.f38.body.map loopsOf).getD []).getD 0 .skip) :
    (Code.loop body).wp Tryd.prog Q (fr38a mb n p 0 u0) w := by
  subst hbody
  conv => arg 2; arg 1; whnf
  refine wp_loop (fun act wr => ∃ (u : Nat → Value) (k : Nat), act = fr38a mb n p k u ∧ k ≤ 7 ∧ Hid (L1 own W0 mb (n + 1) tb σ k wr)) (fun act _ => 7 - (intOf (act.tmps.getD 24 undef)).toNat) ?start ?round
  case start => exact ⟨u0, 0, rfl, by omega, h0⟩
  case round =>
    rintro a0 wr ⟨u, k, rfl, hk, hL⟩
    obtain ⟨KR, hKR⟩ : ∃ KR : Act → World → Prop, KR = fun a' w' => ((fun act wr => ∃ (u : Nat → Value) (k : Nat), act = fr38a mb n p k u ∧ k ≤ 7 ∧ Hid (L1 own W0 mb (n + 1) tb σ k wr)) a' w' ∧ 7 - (intOf (a'.tmps.getD 24 undef)).toNat < 7 - (intOf ((fr38a mb n p k u).tmps.getD 24 undef)).toNat) := ⟨_, rfl⟩
    have HKR : Hid (∀ (act : Act) (w' : World), act = fr38a mb n p (k + 1) (fun i => act.tmps.getD i undef) → k < 7 → L1 own W0 mb (n + 1) tb σ (k + 1) w' → KR act w') := fun act w' e hk7 hl => by
      rw [hKR]
      refine ⟨⟨_, k + 1, e, hk7, hl⟩, ?_⟩
      have e1 : act.tmps.getD 24 undef = .int .i64 ((k + 1 : Nat) : Int) := by rw [e]; rfl
      have e2 : (fr38a mb n p k u).tmps.getD 24 undef = .int .i64 ((k : Nat) : Int) := rfl
      simp only [e1, e2, intOf]
      omega
    rw [← hKR]
    clear hKR
    by_cases hk7 : k < 7
    · obtain ⟨M, hB, hcase⟩ := hL.out.step hX hC hA hk7
      have hki : ((k : Nat) : Int) < 7 := by omega
      have hadd : IntKind.i64.wrap (((k : Nat) : Int) + 1) = (k : Nat) + 1 := by simp [IntKind.wrap, IntKind.bits, IntKind.signed]; omega
      obtain ⟨w0, rfl, hl0⟩ := hB.out
      clear hB hL h0 hQ
      rcases hcase with ⟨hsv, hL1⟩ | ⟨b, hsv, hlo, hhi, hcase⟩
      · have HL1 := hid_of hL1
        clear hL1
        unfold fr38a
        go_wp2_with fail
        exact HKR.out _ _ (by kernel_rfl) hk7 HL1.out
      · have hsub : ((M.tg k).lf - 1) % 4294967296 = (M.tg k).lf - 1 := by omega
        rcases hcase with ⟨hz, hL1⟩ | ⟨hz, hC1⟩
        · have hz' : ((M.tg k).lf - 1 == 0) = false := by simpa using hz
          rw [put_put] at hL1
          have HL1 : Hid (L1 own W0 mb (n + 1) tb σ (k + 1) (put w0 mb (encM { M with tg := upd M.tg k ⟨(M.tg k).wm, (M.tg k).pv, (M.tg k).av, .pointer (some ⟨b, 0, none⟩), (M.tg k).lf - 1, (M.tg k).en, (M.tg k).rd, (M.tg k).tu, (M.tg k).is⟩ }) 104)) := by rw [← hsv]; exact hL1
          clear hL1 hz hlo hhi
          unfold fr38a
          go_wp2_with fail
          exact HKR.out _ _ (by kernel_rfl) hk7 HL1.out
        · have hz' : ((M.tg k).lf - 1 == 0) = true := by simpa using hz
          rw [put_put] at hC1
          have HC1 : Hid (Calls Tryd.prog 52 #[.pointer (some ⟨mb, 0, none⟩), .int .i64 (k : Nat), .pointer (some ⟨n + 1, 0, none⟩)] (put w0 mb (encM { M with tg := upd M.tg k ⟨(M.tg k).wm, (M.tg k).pv, (M.tg k).av, .pointer (some ⟨b, 0, none⟩), (M.tg k).lf - 1, (M.tg k).en, (M.tg k).rd, (M.tg k).tu, (M.tg k).is⟩ }) 104) fun e w' => e = .returned (.tuple #[]) ∧ L1 own W0 mb (n + 1) tb σ (k + 1) w') := by rw [← hsv]; exact hC1
          clear hC1 hz hlo hhi
          unfold fr38a
          go_wp2_with fail
          refine HC1.out.mono ?_
          rintro e w9 ⟨rfl, hL1⟩
          have HL1 := hid_of hL1
          clear hL1 HC1
          go_wp2_with fail
          exact HKR.out _ _ (by kernel_rfl) hk7 HL1.out
    · have hki : ¬ ((k : Nat) : Int) < 7 := by omega
      have HQ := hid_of hQ
      have HE : Hid (k = 7) := by unfold Hid; omega
      clear hQ h0
      unfold fr38a
      go_wp2_with fail
      have hL7 := hL.out
      rw [HE.out] at hL7
      have hk7' := HE.out
      subst hk7'
      exact q_of (Q := fun a => Q (.exit 0) a wr) (F := fr38a mb n p 7) (fun u => HQ.out u wr hL7) _ (by kernel_rfl)
end Go.Proofs.Qxb6500750aDoor
