import Derived.Test.Qxb6500750aDoorMt2
namespace Go.Proofs.Qxb6500750aDoor
open Go.RowKit
/-! ### The machine's tick: the goals -/
def encGo (f : Nat → Int) : Array Value := row 3 fun m => .int .i64 (f m)
theorem gog_get (f : Nat → Int) (m : Nat) (hm : m < 3) : (encGo f)[m]? = some (.int .i64 (f m)) := row_get 3 _ m hm
theorem gog_set (f : Nat → Int) (m : Nat) (v : Int) : (encGo f).setIfInBounds m (.int .i64 v) = encGo (upd f m v) := by
  refine row_set _ _ _ _ _ fun j _ => ?_
  by_cases e : j = m
  · rw [if_pos e, e, upd_same]
  · rw [if_neg e, upd_ne _ _ _ _ e]
def goalK (x : XS) (k : Nat) : Nat → Int := fun m => if m < k ∧ (x.mp m).gr < (x.mp m).iss then (rtAt x (reqG x m).ad : Nat) else 0
theorem goalK_succ (x : XS) (k : Nat) (h : (x.mp k).gr < (x.mp k).iss) : upd (goalK x k) k ((rtAt x (reqG x k).ad : Nat) : Int) = goalK x (k + 1) := by
  funext m
  unfold goalK
  by_cases e : m = k
  · subst e; rw [upd_same, if_pos ⟨by omega, h⟩]
  · rw [upd_ne _ _ _ _ e]
    by_cases h : m < k ∧ (x.mp m).gr < (x.mp m).iss
    · rw [if_pos h, if_pos ⟨by omega, h.2⟩]
    · rw [if_neg h, if_neg (fun q => h ⟨by omega, q.2⟩)]
theorem goalK_same (x : XS) (k : Nat) (h : ¬ (x.mp k).gr < (x.mp k).iss) : goalK x k = goalK x (k + 1) := by
  funext m
  unfold goalK
  by_cases e : m = k
  · subst e; rw [if_neg (fun q => h q.2), if_neg (fun q => h q.2)]
  · by_cases h : m < k ∧ (x.mp m).gr < (x.mp m).iss
    · rw [if_pos h, if_pos ⟨by omega, h.2⟩]
    · rw [if_neg h, if_neg (fun q => h ⟨by omega, q.2⟩)]
structure GI (own : Nat → Nat) (W0 : World) (mb gb : Nat) (M : MA) (tb : Nat → Int → Nat) (σ : SS) (k : Nat) (wr : World) : Prop where
  mr : MR own wr mb M tb σ
  blk : Blk wr gb (encGo (goalK σ.x k)) 74
  glb : Glb own wr
  ext : Ext own own (· = 51) W0 wr
theorem GI.call {N : Int} {A : Nat} {σ : SS} (hX : XInv N A σ) {own : Nat → Nat} {W0 wr : World} {mb gb k : Nat} {M : MA} {tb : Nat → Int → Nat} (hk : k < 3) (h : GI own W0 mb gb M tb σ k wr) (hg : (σ.x.mp k).gr < (σ.x.mp k).iss) :
    Calls Tryd.prog 53 #[.pointer (some ⟨mb, 0, none⟩), .pointer (some ⟨tb k (σ.x.mp k).gr, 0, none⟩)] wr fun e w' => e = .returned (.int .i64 (rtAt σ.x (reqG σ.x k).ad)) ∧ GI own W0 mb gb M tb σ k w' := by
  have hc := hX.cnt k hk
  have htx := h.mr.tx k hk (σ.x.mp k).gr (by omega) hg
  have had := hX.ad k ((σ.x.mp k).gr % 4).toNat hk (by omega)
  refine (goal_any mb _ M _ wr h.mr.blk htx had h.glb.maps).mono ?_
  rintro e w' ⟨rfl, hb⟩
  have hx : Ext own own (fun _ => False) wr w' := Ext.of_below hb
  refine ⟨?_, h.mr.below hb, (hb.block _ h.blk.lt).trans h.blk, h.glb.ext hx (fun q => q), h.ext.trans (hx.mono fun _ q => q.elim)⟩
  have h9 := goal_route h.mr (txOf σ.x k (σ.x.mp k).gr).rq.ad
  unfold goalM
  rw [h9]; rfl
theorem GI.store {σ : SS} {own : Nat → Nat} {W0 w2 : World} {mb gb k : Nat} {M : MA} {tb : Nat → Int → Nat} (hob : own gb = 51) (hl : gb < w2.heap.size) (h : GI own W0 mb gb M tb σ k (put w2 gb (encGo (goalK σ.x k)) 74)) (hg : (σ.x.mp k).gr < (σ.x.mp k).iss) :
    GI own W0 mb gb M tb σ (k + 1) (put w2 gb (encGo (upd (goalK σ.x k) k ((rtAt σ.x (reqG σ.x k).ad : Nat) : Int))) 74) := by
  rw [goalK_succ _ _ hg]
  have hx : Ext own own (· = 51) (put w2 gb (encGo (goalK σ.x k)) 74) (put w2 gb (encGo (goalK σ.x (k + 1))) 74) := by
    have := Ext.put (own := own) (S := (· = 51)) (w := put w2 gb (encGo (goalK σ.x k)) 74) (b := gb) (cs := encGo (goalK σ.x (k + 1))) (T := 74) hob
    rw [put_put] at this
    exact this
  refine ⟨h.mr.ext hx (fun j hj e => by unfold SM at hj; omega), Blk.put_same hl, h.glb.ext hx (by omega), h.ext.trans hx⟩
attribute [local go_sem] put_size put_cell_same put_cell_ne put_frozen_same put_frozen_ne put_setCell_same put_setCell_ne put_drew
attribute [local go_sem] drewN_setCell drewN_alloc drewN_put upd_same upd_upd gog_get gog_set
def fr38d (mb n : Nat) (p : Int) (cb gb : Nat) (cv : Value) (k : Nat) (u : Nat → Value) : Act :=
  { tmps := ((.pointer (some ⟨mb, 0, none⟩)) :: (.int .u32 p) :: (u 2) :: (u 3) :: (.pointer (some ⟨n, 0, none⟩)) :: (.pointer (some ⟨n + 1, 0, none⟩)) :: (u 6) :: (u 7) :: (.pointer (some ⟨cb, 0, none⟩)) :: (u 9) :: (u 10) :: (u 11) :: (u 12) :: (.pointer (some ⟨gb, 0, none⟩)) :: (u 14) :: (u 15) :: (u 16) :: (u 17) :: (u 18) :: (u 19) :: (u 20) :: (u 21) :: (u 22) :: (u 23) :: (u 24) :: (u 25) :: (u 26) :: (u 27) :: (u 28) :: (u 29) :: (u 30) :: (u 31) :: (u 32) :: (u 33) :: (u 34) :: (u 35) :: (u 36) :: (u 37) :: (u 38) :: (u 39) :: (u 40) :: (u 41) :: (u 42) :: (u 43) :: (u 44) :: (u 45) :: (u 46) :: (u 47) :: (u 48) :: (u 49) :: (u 50) :: (u 51) :: (u 52) :: (u 53) :: (u 54) :: (u 55) :: (u 56) :: (u 57) :: (u 58) :: (u 59) :: (u 60) :: (u 61) :: (u 62) :: (u 63) :: (u 64) :: (u 65) :: (u 66) :: (u 67) :: (u 68) :: (u 69) :: (u 70) :: (u 71) :: (u 72) :: (u 73) :: (u 74) :: (u 75) :: (u 76) :: cv :: (.int .i64 (k : Nat)) :: (u 79) :: (u 80) :: (u 81) :: (u 82) :: (u 83) :: (u 84) :: (u 85) :: (u 86) :: (u 87) :: (u 88) :: (u 89) :: (u 90) :: (u 91) :: (u 92) :: (u 93) :: (u 94) :: (u 95) :: (u 96) :: (u 97) :: (u 98) :: (u 99) :: (u 100) :: (u 101) :: (u 102) :: (u 103) :: (u 104) :: (u 105) :: (u 106) :: (u 107) :: (u 108) :: (u 109) :: (u 110) :: (u 111) :: (u 112) :: (u 113) :: (u 114) :: (u 115) :: (u 116) :: (u 117) :: (u 118) :: (u 119) :: (u 120) :: (u 121) :: (u 122) :: (u 123) :: (u 124) :: (u 125) :: (u 126) :: (u 127) :: (u 128) :: (u 129) :: (u 130) :: (u 131) :: (u 132) :: (u 133) :: (u 134) :: (u 135) :: (u 136) :: (u 137) :: (u 138) :: (u 139) :: (u 140) :: (u 141) :: (u 142) :: (u 143) :: (u 144) :: (u 145) :: (u 146) :: (u 147) :: (u 148) :: (u 149) :: (u 150) :: (u 151) :: (u 152) :: (u 153) :: (u 154) :: (u 155) :: (u 156) :: (u 157) :: (u 158) :: (u 159) :: (u 160) :: (u 161) :: (u 162) :: (u 163) :: (u 164) :: (u 165) :: (u 166) :: (u 167) :: (u 168) :: (u 169) :: (u 170) :: (u 171) :: (u 172) :: (u 173) :: (u 174) :: (u 175) :: (u 176) :: (u 177) :: (u 178) :: (u 179) :: (u 180) :: (u 181) :: (u 182) :: (u 183) :: (u 184) :: (u 185) :: (u 186) :: (u 187) :: (u 188) :: (u 189) :: (u 190) :: (u 191) :: (u 192) :: (u 193) :: (u 194) :: (u 195) :: (u 196) :: (u 197) :: (u 198) :: (u 199) :: (u 200) :: (u 201) :: (u 202) :: (u 203) :: (u 204) :: (u 205) :: (u 206) :: (u 207) :: (u 208) :: (u 209) :: (u 210) :: (u 211) :: (u 212) :: (u 213) :: (u 214) :: (u 215) :: (u 216) :: (u 217) :: (u 218) :: (u 219) :: (u 220) :: [] : List Value).toArray, defers := [] }

set_option maxRecDepth 100000 in
set_option maxHeartbeats 4000000 in
theorem lp38_3 {N : Int} {A : Nat} {σ : SS} (hX : XInv N A σ) {own : Nat → Nat} {W0 w : World} {mb n cb gb : Nat} {M : MA} {tb : Nat → Int → Nat} (p : Int) (cv : Value) (hix : ∀ m, m < 3 → ∀ w, (Instr.index 151 cv (.int .i64 (m : Nat))).run Tryd.prog w = .ok (candV tb σ.x m) w)
    (hob : own gb = 51) (hG : GI own W0 mb gb M tb σ 0 w) (u0 : Nat → Value) (Q : Exit → Act → World → Prop)
    (hQ : ∀ u wr, GI own W0 mb gb M tb σ 3 wr → Q (.exit 6) (fr38d mb n p cb gb cv 3 u) wr) (body : Code) (hbody : body = ((Tryd.f38.body.map loopsOf).getD []).getD 2 .skip) :
    (Code.loop body).wp Tryd.prog Q (fr38d mb n p cb gb cv 0 u0) w := by
  subst hbody
  conv => arg 2; arg 1; whnf
  refine wp_loop (fun act wr => ∃ (u : Nat → Value) (k : Nat), act = fr38d mb n p cb gb cv k u ∧ k ≤ 3 ∧ Hid (GI own W0 mb gb M tb σ k wr)) (fun act _ => 3 - (intOf (act.tmps.getD 78 undef)).toNat) ?start ?round
  case start => exact ⟨u0, 0, rfl, by omega, hG⟩
  case round =>
    rintro a0 wr ⟨u, k, rfl, hk, hGk⟩
    obtain ⟨KR, hKR⟩ : ∃ KR : Act → World → Prop, KR = fun a' w' => ((fun act wr => ∃ (u : Nat → Value) (k : Nat), act = fr38d mb n p cb gb cv k u ∧ k ≤ 3 ∧ Hid (GI own W0 mb gb M tb σ k wr)) a' w' ∧ 3 - (intOf (a'.tmps.getD 78 undef)).toNat < 3 - (intOf ((fr38d mb n p cb gb cv k u).tmps.getD 78 undef)).toNat) := ⟨_, rfl⟩
    have HKR : Hid (∀ (act : Act) (w' : World), act = fr38d mb n p cb gb cv (k + 1) (fun i => act.tmps.getD i undef) → k < 3 → GI own W0 mb gb M tb σ (k + 1) w' → KR act w') := fun act w' e hk3 hl => by
      rw [hKR]
      refine ⟨⟨_, k + 1, e, hk3, hl⟩, ?_⟩
      have e1 : act.tmps.getD 78 undef = .int .i64 ((k + 1 : Nat) : Int) := by rw [e]; rfl
      have e2 : (fr38d mb n p cb gb cv k u).tmps.getD 78 undef = .int .i64 ((k : Nat) : Int) := rfl
      simp only [e1, e2, intOf]
      omega
    rw [← hKR]
    clear hKR
    have HQ := hid_of hQ
    by_cases hk3 : k < 3
    · have hki : ((k : Nat) : Int) < 3 := by omega
      have hadd : IntKind.i64.wrap (((k : Nat) : Int) + 1) = (k : Nat) + 1 := by simp [IntKind.wrap, IntKind.bits, IntKind.signed]; omega
      have hixk := hix k hk3
      unfold candV at hixk
      by_cases hg : (σ.x.mp k).gr < (σ.x.mp k).iss
      · rw [if_pos hg] at hixk
        obtain ⟨T, hT⟩ : ∃ T, tb k (σ.x.mp k).gr = T := ⟨_, rfl⟩
        have hc := hGk.out.call hX hk3 hg
        rw [hT] at hc hixk
        have HC := hid_of hc
        have HG := hid_of hg
        obtain ⟨R, hR⟩ : ∃ R, rtAt σ.x (reqG σ.x k).ad = R := ⟨_, rfl⟩
        rw [hR] at HC
        have HR := hid_of hR
        have hRr : R < 7 := by rw [← hR]; exact rtAt_lt _ _
        clear hix hQ hT hc hG hg hR
        unfold fr38d
        go_wp2_with fail
        refine HC.out.mono ?_
        rintro e w1 ⟨rfl, hg1⟩
        have HG1 := hid_of hg1
        have hB := hg1.blk
        obtain ⟨w2, rfl, hl2⟩ := hB.out
        clear HC hg1 hB
        have HF : Hid (GI own W0 mb gb M tb σ (k + 1) (put w2 gb (encGo (upd (goalK σ.x k) k ((R : Nat) : Int))) 74)) := by
          have := HG1.out.store hob hl2 HG.out
          rw [HR.out] at this
          exact this
        obtain ⟨f, hf⟩ : ∃ f, goalK σ.x k = f := ⟨_, rfl⟩
        rw [hf] at HF ⊢
        clear hf HG1
        go_wp2_with fail
        exact HKR.out _ _ (by kernel_rfl) hk3 HF.out
      · rw [if_neg hg] at hixk
        have HF : Hid (GI own W0 mb gb M tb σ (k + 1) wr) := by
          have h9 := hGk.out
          exact ⟨h9.mr, by rw [← goalK_same _ _ hg]; exact h9.blk, h9.glb, h9.ext⟩
        clear hix hQ hG hg hGk
        unfold fr38d
        go_wp2_with fail
        exact HKR.out _ _ (by kernel_rfl) hk3 HF.out
    · have hki : ¬ ((k : Nat) : Int) < 3 := by omega
      have HE : k = 3 := by omega
      subst HE
      clear hQ hix hG
      unfold fr38d
      go_wp2_with fail
      exact q_of (Q := fun a => Q (.exit 6) a wr) (F := fr38d mb n p cb gb cv 3) (fun u => HQ.out u wr hGk.out) _ (by kernel_rfl)
end Go.Proofs.Qxb6500750aDoor
