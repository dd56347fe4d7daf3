import Derived.Test.Qxb6500750aDoorMt5
namespace Go.Proofs.Qxb6500750aDoor
open Go.RowKit
/-! ### The machine's tick: the arbitration -/
attribute [local go_sem] put_size put_cell_same put_cell_ne put_frozen_same put_frozen_ne put_setCell_same put_setCell_ne put_drew
attribute [local go_sem] drewN_setCell drewN_alloc drewN_put upd_same upd_upd
attribute [local go_sem] mg_q mg_ac mg_tk mg_ba mg_wm mg_pv mg_av mg_sv mg_lf mg_en mg_rd mg_tu mg_is ms_q ms_ac ms_tk ms_ba ms_wm ms_pv ms_av ms_sv ms_lf ms_en ms_rd ms_tu ms_is
attribute [local go_sem] tg_0 tg_1 tg_2 tg_3 tg_4 tg_5 tg_6 tg_7 tg_8 tg_9 tg_10 tg_11 tg_12 tg_13 ts_5 ts_6 ts_7 ts_10 ts_11 ts_12 ts_13
attribute [local go_sem] rg_g rs_g
theorem pick_mod (p : Int) (h0 : 0 ≤ p) (t : Nat) : (p / 2 ^ (2 * t)).tmod 4 = (pickAt p t : Nat) := by
  have hp : (0 : Int) < 2 ^ (2 * t) := Int.pow_pos (by decide)
  have h2 : 0 ≤ p / 2 ^ (2 * t) := Int.ediv_nonneg h0 (by omega)
  rw [Int.tmod_eq_emod_of_nonneg h2]
  unfold pickAt
  omega
def fr38f (mb n : Nat) (p : Int) (cb gb t : Nat) (u : Nat → Value) : Act :=
  { tmps := ((.pointer (some ⟨mb, 0, none⟩)) :: (.int .u32 p) :: (u 2) :: (u 3) :: (.pointer (some ⟨n, 0, none⟩)) :: (.pointer (some ⟨n + 1, 0, none⟩)) :: (u 6) :: (u 7) :: (.pointer (some ⟨cb, 0, none⟩)) :: (u 9) :: (u 10) :: (u 11) :: (u 12) :: (.pointer (some ⟨gb, 0, none⟩)) :: (u 14) :: (u 15) :: (u 16) :: (u 17) :: (u 18) :: (u 19) :: (u 20) :: (u 21) :: (u 22) :: (u 23) :: (u 24) :: (u 25) :: (u 26) :: (u 27) :: (u 28) :: (u 29) :: (u 30) :: (u 31) :: (u 32) :: (u 33) :: (u 34) :: (u 35) :: (u 36) :: (u 37) :: (u 38) :: (u 39) :: (u 40) :: (u 41) :: (u 42) :: (u 43) :: (u 44) :: (u 45) :: (u 46) :: (u 47) :: (u 48) :: (u 49) :: (u 50) :: (u 51) :: (u 52) :: (u 53) :: (u 54) :: (u 55) :: (u 56) :: (u 57) :: (u 58) :: (u 59) :: (u 60) :: (u 61) :: (u 62) :: (u 63) :: (u 64) :: (u 65) :: (u 66) :: (u 67) :: (u 68) :: (u 69) :: (u 70) :: (u 71) :: (u 72) :: (u 73) :: (u 74) :: (u 75) :: (u 76) :: (u 77) :: (u 78) :: (u 79) :: (u 80) :: (u 81) :: (u 82) :: (u 83) :: (u 84) :: (u 85) :: (u 86) :: (u 87) :: (u 88) :: (u 89) :: (.int .i64 (t : Nat)) :: (u 91) :: (u 92) :: (u 93) :: (u 94) :: (u 95) :: (u 96) :: (u 97) :: (u 98) :: (u 99) :: (u 100) :: (u 101) :: (u 102) :: (u 103) :: (u 104) :: (u 105) :: (u 106) :: (u 107) :: (u 108) :: (u 109) :: (u 110) :: (u 111) :: (u 112) :: (u 113) :: (u 114) :: (u 115) :: (u 116) :: (u 117) :: (u 118) :: (u 119) :: (u 120) :: (u 121) :: (u 122) :: (u 123) :: (u 124) :: (u 125) :: (u 126) :: (u 127) :: (u 128) :: (u 129) :: (u 130) :: (u 131) :: (u 132) :: (u 133) :: (u 134) :: (u 135) :: (u 136) :: (u 137) :: (u 138) :: (u 139) :: (u 140) :: (u 141) :: (u 142) :: (u 143) :: (u 144) :: (u 145) :: (u 146) :: (u 147) :: (u 148) :: (u 149) :: (u 150) :: (u 151) :: (u 152) :: (u 153) :: (u 154) :: (u 155) :: (u 156) :: (u 157) :: (u 158) :: (u 159) :: (u 160) :: (u 161) :: (u 162) :: (u 163) :: (u 164) :: (u 165) :: (u 166) :: (u 167) :: (u 168) :: (u 169) :: (u 170) :: (u 171) :: (u 172) :: (u 173) :: (u 174) :: (u 175) :: (u 176) :: (u 177) :: (u 178) :: (u 179) :: (u 180) :: (u 181) :: (u 182) :: (u 183) :: (u 184) :: (u 185) :: (u 186) :: (u 187) :: (u 188) :: (u 189) :: (u 190) :: (u 191) :: (u 192) :: (u 193) :: (u 194) :: (u 195) :: (u 196) :: (u 197) :: (u 198) :: (u 199) :: (u 200) :: (u 201) :: (u 202) :: (u 203) :: (u 204) :: (u 205) :: (u 206) :: (u 207) :: (u 208) :: (u 209) :: (u 210) :: (u 211) :: (u 212) :: (u 213) :: (u 214) :: (u 215) :: (u 216) :: (u 217) :: (u 218) :: (u 219) :: (u 220) :: [] : List Value).toArray, defers := [] }

set_option maxRecDepth 100000 in
set_option maxHeartbeats 4000000 in
theorem rnd38_4a {mb n cb gb t : Nat} (ht : t < 7) {M : MA} {ρ : RepD} (p : Int) (w2 : World) (hl1 : n + 1 < w2.heap.size) (hl2 : mb < w2.heap.size) (hrm : n + 1 ≠ mb) (b : Nat) (hsv : (M.tg t).sv = .pointer (some ⟨b, 0, none⟩)) (u : Nat → Value) (KR : Act → World → Prop)
    (HKR : Hid (∀ (act : Act), act = fr38f mb n p cb gb (t + 1) (fun i => act.tmps.getD i undef) → KR act (put (put w2 (n + 1) (encR { ρ with g := upd ρ.g t (-1) }) 41) mb (encM M) 104))) (Q0 : Exit → Act → World → Prop) (body : Code) (hbody : body = ((Tryd.f38.body.map loopsOf).getD []).getD 3 .skip) :
    body.wp Tryd.prog (Exit.then KR Q0) (fr38f mb n p cb gb t u) (put (put w2 (n + 1) (encR ρ) 41) mb (encM M) 104) := by
  subst hbody
  conv => arg 2; whnf
  have hti : ((t : Nat) : Int) < 7 := by omega
  have hadd : IntKind.i64.wrap (((t : Nat) : Int) + 1) = (t : Nat) + 1 := by simp [IntKind.wrap, IntKind.bits, IntKind.signed]; omega
  unfold fr38f
  go_wp2_with fail
  exact HKR.out _ (by kernel_rfl)
set_option maxRecDepth 100000 in
set_option maxHeartbeats 4000000 in
/-- Nobody wins. -/
theorem rnd38_4b {mb n cb gb t : Nat} (ht : t < 7) {M : MA} {ρ : RepD} (p : Int) (hp0 : 0 ≤ p) (w2 : World) (hl1 : n + 1 < w2.heap.size) (hl2 : mb < w2.heap.size) (hrm : n + 1 ≠ mb) (hsv : (M.tg t).sv = .pointer none) {cand : Nat → Value} {goal : Nat → Int} {f : Nat → Bool} (hS : Says cand goal f t) (tu : Nat) (htu : tu < 3) (hMt : (M.tg t).tu = (tu : Nat))
    (hc : ∀ m, m < 3 → w2.cell? ⟨cb, m, none⟩ = some (cand m)) (hg : ∀ m, m < 3 → w2.cell? ⟨gb, m, none⟩ = some (.int .i64 (goal m))) (hcr : cb ≠ n + 1) (hcm : cb ≠ mb) (hgr : gb ≠ n + 1) (hgm : gb ≠ mb) (hw : winF f (pickAt p t) tu = -1) (u : Nat → Value) (KR : Act → World → Prop)
    (HKR : Hid (∀ (act : Act), act = fr38f mb n p cb gb (t + 1) (fun i => act.tmps.getD i undef) → KR act (put (put w2 (n + 1) (encR { ρ with g := upd ρ.g t (-1) }) 41) mb (encM M) 104))) (Q0 : Exit → Act → World → Prop) (body : Code) (hbody : body = ((Tryd.f38.body.map loopsOf).getD []).getD 3 .skip) :
    body.wp Tryd.prog (Exit.then KR Q0) (fr38f mb n p cb gb t u) (put (put w2 (n + 1) (encR ρ) 41) mb (encM M) 104) := by
  subst hbody
  conv => arg 2; whnf
  have hti : ((t : Nat) : Int) < 7 := by omega
  have hadd : IntKind.i64.wrap (((t : Nat) : Int) + 1) = (t : Nat) + 1 := by simp [IntKind.wrap, IntKind.bits, IntKind.signed]; omega
  have HSA := hid_of hS
  have HC := hid_of hc
  have HG := hid_of hg
  have HMT := hid_of hMt
  obtain ⟨pk, hpke⟩ : ∃ pk, pickAt p t = pk := ⟨_, rfl⟩
  have hpk := pick_mod p hp0 t
  have hpk4 := pickAt_lt p t
  rw [hpke] at hpk hw hpk4
  have HW := hid_of hw
  clear hS hc hg hMt hw hpke
  unfold fr38f
  go_wp2_with fail
  refine q_of (Q := fun a => (Code.loop _).wp Tryd.prog _ a _) (F := fr38e mb n p cb gb t (-1) 0) (fun u => lp38_4i ht HSA.out tu htu _ p ?_ ?_ ?_ u _ ?_ _ (by kernel_rfl)) _ (by kernel_rfl)
  · intro m hm; rw [put_cell_ne _ _ _ _ _ _ _ hcm, put_cell_ne _ _ _ _ _ _ _ hcr]; exact HC.out m hm
  · intro m hm; rw [put_cell_ne _ _ _ _ _ _ _ hgm, put_cell_ne _ _ _ _ _ _ _ hgr]; exact HG.out m hm
  · rw [(Blk.put_same (by simp only [put_size]; exact hl2)).cell, mg_tu _ _ ht, HMT.out]
  · intro u
    obtain ⟨wi, hwi⟩ : ∃ wi, wA f tu 3 = wi := ⟨_, rfl⟩
    rw [hwi]
    have HWI := hid_of hwi
    clear hwi
    unfold fr38e
    by_cases hp3 : pk < 3
    · have hpi : ((pk : Nat) : Int) < 3 := by omega
      have hcm' := HC.out pk hp3
      have hgm' := HG.out pk hp3
      rcases HSA.out pk hp3 with ⟨hcv, hf⟩ | ⟨T, hcv, ⟨hgo, hf⟩ | ⟨hgo, hf⟩⟩
      · rw [hcv] at hcm'
        have hz : wi = -1 := by
          have h9 := HW.out
          unfold winF at h9
          rw [if_neg (fun q => by rw [hf] at q; cases q.2), HWI.out] at h9
          exact h9
        subst hz
        clear hf hcv HC HG HSA HW HWI
        go_wp2_with fail
        exact HKR.out _ (by kernel_rfl)
      · exfalso
        have h9 := HW.out
        unfold winF at h9
        rw [if_pos ⟨hp3, hf⟩] at h9
        omega
      · rw [hcv] at hcm'
        have hz : wi = -1 := by
          have h9 := HW.out
          unfold winF at h9
          rw [if_neg (fun q => by rw [hf] at q; cases q.2), HWI.out] at h9
          exact h9
        subst hz
        have hgn : (goal pk == ((t : Nat) : Int)) = false := by simpa using hgo
        clear hf hcv HC HG HSA HW HWI hgo
        go_wp2_with fail
        exact HKR.out _ (by kernel_rfl)
    · have hpi : ¬ ((pk : Nat) : Int) < 3 := by omega
      have hz : wi = -1 := by
        have h9 := HW.out
        unfold winF at h9
        rw [if_neg (fun q => hp3 q.1), HWI.out] at h9
        exact h9
      subst hz
      clear HC HG HSA HW HWI
      go_wp2_with fail
      exact HKR.out _ (by kernel_rfl)
set_option maxRecDepth 100000 in
set_option maxHeartbeats 4000000 in
/-- Master m wins. -/
theorem rnd38_4c {mb n cb gb t T m : Nat} (ht : t < 7) (hm : m < 3) {M : MA} {ρ : RepD} {x : TX} (p : Int) (hp0 : 0 ≤ p) (w2 : World) (hl1 : n + 1 < w2.heap.size) (hl2 : mb < w2.heap.size) (hl3 : T < w2.heap.size) (hrm : n + 1 ≠ mb) (hrT : n + 1 ≠ T) (hTm : T ≠ mb) (hsv : (M.tg t).sv = .pointer none) {cand : Nat → Value} {goal : Nat → Int} {f : Nat → Bool} (hS : Says cand goal f t) (tu : Nat) (htu : tu < 3) (hMt : (M.tg t).tu = (tu : Nat))
    (hc : ∀ m, m < 3 → w2.cell? ⟨cb, m, none⟩ = some (cand m)) (hg : ∀ m, m < 3 → w2.cell? ⟨gb, m, none⟩ = some (.int .i64 (goal m))) (hcr : cb ≠ n + 1) (hcm : cb ≠ mb) (hcT : cb ≠ T) (hgr : gb ≠ n + 1) (hgm : gb ≠ mb) (hgT : gb ≠ T) (hw : winF f (pickAt p t) tu = (m : Nat)) (hcdm : cand m = .pointer (some ⟨T, 0, none⟩)) (u : Nat → Value) (KR : Act → World → Prop) (P : World → Prop)
    (hCL : Calls Tryd.prog 54 #[.pointer (some ⟨mb, 0, none⟩), .int .i64 (t : Nat)] (put (put (put w2 (n + 1) (encR { ρ with g := upd ρ.g t (-1) }) 41) T (encT { x with gr := true }) 148) mb (encM { M with tg := upd M.tg t { M.tg t with sv := .pointer (some ⟨T, 0, none⟩), tu := ((m : Nat) + 1) % 3 } }) 104)
      fun e w' => e = .returned (.tuple #[]) ∧ Blk w' (n + 1) (encR { ρ with g := upd ρ.g t (-1) }) 41 ∧ P (put w' (n + 1) (encR { ρ with g := upd ρ.g t (m : Nat) }) 41))
    (HKR : Hid (∀ (act : Act) (w' : World), act = fr38f mb n p cb gb (t + 1) (fun i => act.tmps.getD i undef) → P w' → KR act w')) (Q0 : Exit → Act → World → Prop) (body : Code) (hbody : body = ((Tryd.f38.body.map loopsOf).getD []).getD 3 .skip) :
    body.wp Tryd.prog (Exit.then KR Q0) (fr38f mb n p cb gb t u) (put (put (put w2 (n + 1) (encR ρ) 41) T (encT x) 148) mb (encM M) 104) := by
  subst hbody
  conv => arg 2; whnf
  have hti : ((t : Nat) : Int) < 7 := by omega
  have hadd : IntKind.i64.wrap (((t : Nat) : Int) + 1) = (t : Nat) + 1 := by simp [IntKind.wrap, IntKind.bits, IntKind.signed]; omega
  have hmi : ((m : Nat) : Int) < 3 := by omega
  have hmn : (((m : Nat) : Int) == -1) = false := by simp
  have hmd : (((m : Nat) : Int) + 1).tmod 3 = ((m : Nat) + 1) % 3 := Int.tmod_eq_emod_of_nonneg (by omega)
  have hm8 : IntKind.i8.wrap ((m : Nat) : Int) = (m : Nat) := by simp [IntKind.wrap, IntKind.bits, IntKind.signed]; omega
  have hcdc := hc m hm
  rw [hcdm] at hcdc
  have HSA := hid_of hS
  have HC := hid_of hc
  have HG := hid_of hg
  have HMT := hid_of hMt
  have HCL := hid_of hCL
  obtain ⟨pk, hpke⟩ : ∃ pk, pickAt p t = pk := ⟨_, rfl⟩
  have hpk := pick_mod p hp0 t
  have hpk4 := pickAt_lt p t
  rw [hpke] at hpk hw hpk4
  have HW := hid_of hw
  have HM3 := hid_of hm
  clear hS hc hg hMt hw hpke hCL hcdm
  unfold fr38f
  go_wp2_with fail
  refine q_of (Q := fun a => (Code.loop _).wp Tryd.prog _ a _) (F := fr38e mb n p cb gb t (-1) 0) (fun u => lp38_4i ht HSA.out tu htu _ p ?_ ?_ ?_ u _ ?_ _ (by kernel_rfl)) _ (by kernel_rfl)
  · intro m hm; rw [put_cell_ne _ _ _ _ _ _ _ hcm, put_cell_ne _ _ _ _ _ _ _ hcT, put_cell_ne _ _ _ _ _ _ _ hcr]; exact HC.out m hm
  · intro m hm; rw [put_cell_ne _ _ _ _ _ _ _ hgm, put_cell_ne _ _ _ _ _ _ _ hgT, put_cell_ne _ _ _ _ _ _ _ hgr]; exact HG.out m hm
  · rw [(Blk.put_same (by simp only [put_size]; exact hl2)).cell, mg_tu _ _ ht, HMT.out]
  · intro u
    obtain ⟨wi, hwi⟩ : ∃ wi, wA f tu 3 = wi := ⟨_, rfl⟩
    rw [hwi]
    have HWI := hid_of hwi
    clear hwi
    unfold fr38e
    by_cases hp3 : pk < 3
    · have hpi : ((pk : Nat) : Int) < 3 := by omega
      have hcm' := HC.out pk hp3
      have hgm' := HG.out pk hp3
      rcases HSA.out pk hp3 with ⟨hcv, hf⟩ | ⟨T', hcv, ⟨hgo, hf⟩ | ⟨hgo, hf⟩⟩
      · rw [hcv] at hcm'
        have hz : wi = (m : Nat) := by
          have h9 := HW.out
          unfold winF at h9
          rw [if_neg (fun q => by rw [hf] at q; cases q.2), HWI.out] at h9
          exact h9
        subst hz
        clear hf hcv HC HG HSA HW HWI
        go_wp2_with fail
        refine HCL.out.mono ?_
        rintro e w9 ⟨rfl, hR9, hP9⟩
        obtain ⟨w8, rfl, hl8⟩ := hR9.out
        rw [put_put] at hP9
        have HP9 := hid_of hP9
        clear hP9 hR9 HCL
        go_wp2_with fail
        exact HKR.out _ _ (by kernel_rfl) HP9.out
      · rw [hcv] at hcm'
        rw [hgo] at hgm'
        have hz : pk = m := by
          have h9 := HW.out
          unfold winF at h9
          rw [if_pos ⟨hp3, hf⟩] at h9
          omega
        subst hz
        clear hf hcv HC HG HSA HW HWI hgo hcm'
        go_wp2_with fail
        refine HCL.out.mono ?_
        rintro e w9 ⟨rfl, hR9, hP9⟩
        obtain ⟨w8, rfl, hl8⟩ := hR9.out
        rw [put_put] at hP9
        have HP9 := hid_of hP9
        clear hP9 hR9 HCL
        go_wp2_with fail
        exact HKR.out _ _ (by kernel_rfl) HP9.out
      · rw [hcv] at hcm'
        have hz : wi = (m : Nat) := by
          have h9 := HW.out
          unfold winF at h9
          rw [if_neg (fun q => by rw [hf] at q; cases q.2), HWI.out] at h9
          exact h9
        subst hz
        have hgn : (goal pk == ((t : Nat) : Int)) = false := by simpa using hgo
        clear hf hcv HC HG HSA HW HWI hgo
        go_wp2_with fail
        refine HCL.out.mono ?_
        rintro e w9 ⟨rfl, hR9, hP9⟩
        obtain ⟨w8, rfl, hl8⟩ := hR9.out
        rw [put_put] at hP9
        have HP9 := hid_of hP9
        clear hP9 hR9 HCL
        go_wp2_with fail
        exact HKR.out _ _ (by kernel_rfl) HP9.out
    · have hpi : ¬ ((pk : Nat) : Int) < 3 := by omega
      have hz : wi = (m : Nat) := by
        have h9 := HW.out
        unfold winF at h9
        rw [if_neg (fun q => hp3 q.1), HWI.out] at h9
        exact h9
      subst hz
      clear HC HG HSA HW HWI
      go_wp2_with fail
      refine HCL.out.mono ?_
      rintro e w9 ⟨rfl, hR9, hP9⟩
      obtain ⟨w8, rfl, hl8⟩ := hR9.out
      rw [put_put] at hP9
      have HP9 := hid_of hP9
      clear hP9 hR9 HCL
      go_wp2_with fail
      exact HKR.out _ _ (by kernel_rfl) HP9.out
theorem put_turn (w : World) (b b' : Nat) (c1 c2 c3 : Array Value) (T T' : TypeId) (h : b ≠ b') : put (put (put w b c1 T) b' c2 T') b c3 T = put (put w b c3 T) b' c2 T' := by
  rw [put_comm _ _ _ _ _ _ _ (Ne.symm h), put_put]
set_option maxRecDepth 100000 in
set_option maxHeartbeats 4000000 in
theorem lp38_4 {N : Int} {A : Nat} {σ1 : SS} (hX : XInv N A σ1) (hA : A + 7 < 1000000000) {own : Nat → Nat} {W0 w : World} {mb n cb gb : Nat} {tb : Nat → Int → Nat} {ρ1 : RepD} (p : Int) (hp0 : 0 ≤ p) (h0 : A4 own W0 mb (n + 1) cb gb tb σ1 ρ1 p 0 w) (u0 : Nat → Value) (Q : Exit → Act → World → Prop)
    (hQ : ∀ u wr, A4 own W0 mb (n + 1) cb gb tb σ1 ρ1 p 7 wr → Q (.exit 8) (fr38f mb n p cb gb 7 u) wr) (body : Code) (hbody : body = ((Tryd.f38.body.map loopsOf).getD []).getD 3 .skip) :
    (Code.loop body).wp Tryd.prog Q (fr38f mb n p cb gb 0 u0) w := by
  refine wp_loop (fun act wr => ∃ (u : Nat → Value) (k : Nat), act = fr38f mb n p cb gb k u ∧ k ≤ 7 ∧ Hid (A4 own W0 mb (n + 1) cb gb tb σ1 ρ1 p k wr)) (fun act _ => 7 - (intOf (act.tmps.getD 90 undef)).toNat) ?start ?round
  case start => exact ⟨u0, 0, rfl, by omega, h0⟩
  case round =>
    rintro a0 wr ⟨u, k, rfl, hk, hL⟩
    obtain ⟨KR, hKR⟩ : ∃ KR : Act → World → Prop, KR = fun a' w' => ((fun act wr => ∃ (u : Nat → Value) (k : Nat), act = fr38f mb n p cb gb k u ∧ k ≤ 7 ∧ Hid (A4 own W0 mb (n + 1) cb gb tb σ1 ρ1 p k wr)) a' w' ∧ 7 - (intOf (a'.tmps.getD 90 undef)).toNat < 7 - (intOf ((fr38f mb n p cb gb k u).tmps.getD 90 undef)).toNat) := ⟨_, rfl⟩
    have HKR : k < 7 → Hid (∀ (act : Act) (w' : World), act = fr38f mb n p cb gb (k + 1) (fun i => act.tmps.getD i undef) → A4 own W0 mb (n + 1) cb gb tb σ1 ρ1 p (k + 1) w' → KR act w') := fun hk7 act w' e hl => by
      rw [hKR]
      refine ⟨⟨_, k + 1, e, hk7, hl⟩, ?_⟩
      have e1 : act.tmps.getD 90 undef = .int .i64 ((k + 1 : Nat) : Int) := by rw [e]; rfl
      have e2 : (fr38f mb n p cb gb k u).tmps.getD 90 undef = .int .i64 ((k : Nat) : Int) := rfl
      simp only [e1, e2, intOf]
      omega
    rw [← hKR]
    clear hKR
    by_cases hk7 : k < 7
    · obtain ⟨M, ρ, hB, hR, hC, hG, hcase⟩ := hL.out.step hX hA hk7
      have hrm : n + 1 ≠ mb := hR.neT hB (by decide)
      have hcr : cb ≠ n + 1 := hC.neT hR (by decide)
      have hcm : cb ≠ mb := hC.neT hB (by decide)
      have hgr : gb ≠ n + 1 := hG.neT hR (by decide)
      have hgm : gb ≠ mb := hG.neT hB (by decide)
      have HK := HKR hk7
      rcases hcase with ⟨b, hsv, hA4⟩ | ⟨hsv, tu, htu, hMt, hno, hwin⟩
      · obtain ⟨w0, rfl, hl0⟩ := hB.out
        have hR0 : Blk w0 (n + 1) (encR ρ) 41 := (put_heap_ne _ _ _ _ _ hrm).symm.trans hR
        obtain ⟨w2, rfl, hl2⟩ := hR0.out
        rw [put_turn _ _ _ _ _ _ _ _ hrm] at hA4
        rw [put_size] at hl0
        exact rnd38_4a hk7 p w2 hl2 hl0 hrm b hsv u KR (fun act e => HK.out act _ e hA4) Q body hbody
      · have hS := says_wants hX tb k
        rcases winF_range (wantsF σ1.x k) (pickAt p k) tu (pickAt_lt p k) htu with hw | ⟨m, hm, hw⟩
        · have hA4 := hno hw
          obtain ⟨w0, rfl, hl0⟩ := hB.out
          have hR0 : Blk w0 (n + 1) (encR ρ) 41 := (put_heap_ne _ _ _ _ _ hrm).symm.trans hR
          obtain ⟨w2, rfl, hl2⟩ := hR0.out
          rw [put_turn _ _ _ _ _ _ _ _ hrm] at hA4
          rw [put_size] at hl0
          refine rnd38_4b hk7 p hp0 w2 hl2 hl0 hrm hsv hS tu htu hMt (fun m hm => ?_) (fun m hm => ?_) hcr hcm hgr hgm hw u KR (fun act e => HK.out act _ e hA4) Q body hbody
          · have h9 := hC.cell m
            rw [cg_get _ _ hm, put_cell_ne _ _ _ _ _ _ _ hcm, put_cell_ne _ _ _ _ _ _ _ hcr] at h9
            exact h9
          · have h9 := hG.cell m
            rw [gog_get _ _ hm, put_cell_ne _ _ _ _ _ _ _ hgm, put_cell_ne _ _ _ _ _ _ _ hgr] at h9
            exact h9
        · obtain ⟨T, x, hcd, hT, hcall⟩ := hwin m hm hw
          have hTm : T ≠ mb := hT.neT hB (by decide)
          have hrT : n + 1 ≠ T := hR.neT hT (by decide)
          have hcT : cb ≠ T := hC.neT hT (by decide)
          have hgT : gb ≠ T := hG.neT hT (by decide)
          obtain ⟨w0, rfl, hl0⟩ := hB.out
          have hT0 : Blk w0 T (encT x) 148 := (put_heap_ne _ _ _ _ _ hTm).symm.trans hT
          have hR0 : Blk w0 (n + 1) (encR ρ) 41 := (put_heap_ne _ _ _ _ _ hrm).symm.trans hR
          obtain ⟨w1, rfl, hl1⟩ := hT0.out
          have hR1 : Blk w1 (n + 1) (encR ρ) 41 := (put_heap_ne _ _ _ _ _ hrT).symm.trans hR0
          obtain ⟨w2, rfl, hl2⟩ := hR1.out
          simp only [put_size] at hl0 hl1
          refine rnd38_4c hk7 hm p hp0 w2 hl2 hl0 hl1 hrm hrT hTm hsv hS tu htu hMt (fun m hm => ?_) (fun m hm => ?_) hcr hcm hcT hgr hgm hgT hw hcd u KR _ (hcall w2 rfl) HK Q body hbody
          · have h9 := hC.cell m
            rw [cg_get _ _ hm, put_cell_ne _ _ _ _ _ _ _ hcm, put_cell_ne _ _ _ _ _ _ _ hcT, put_cell_ne _ _ _ _ _ _ _ hcr] at h9
            exact h9
          · have h9 := hG.cell m
            rw [gog_get _ _ hm, put_cell_ne _ _ _ _ _ _ _ hgm, put_cell_ne _ _ _ _ _ _ _ hgT, put_cell_ne _ _ _ _ _ _ _ hgr] at h9
            exact h9
    · have hki : ¬ ((k : Nat) : Int) < 7 := by omega
      have HE : k = 7 := by omega
      subst HE
      subst hbody
      conv => arg 2; whnf
      have HQ := hid_of hQ
      clear hQ h0 HKR
      unfold fr38f
      go_wp2_with fail
      exact q_of (Q := fun a => Q (.exit 8) a wr) (F := fr38f mb n p cb gb 7) (fun u => HQ.out u wr hL.out) _ (by kernel_rfl)
end Go.Proofs.Qxb6500750aDoor
