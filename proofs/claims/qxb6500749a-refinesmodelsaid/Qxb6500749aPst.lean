import Derived.Test.Qxb6500749aPar
namespace Go.Proofs.Qxb6500749a
open Go.RowKit
attribute [local go_sem] put_size put_cell_same put_cell_ne put_frozen_same put_frozen_ne put_setCell_same put_setCell_ne put_drew
attribute [local go_sem] drewN_setCell drewN_alloc drewN_put
/-! ### One cycle of the pair -/
theorem tickF_no (U : BusD) (h : (tickF U).2.v = false) : (tickF U).2.e = false ∧ (tickF U).2.d = 0 := by
  unfold tickF at h ⊢
  split
  · split
    · exact ⟨rfl, rfl⟩
    · rename_i h1 h2
      rw [if_pos h1, if_neg h2] at h
      cases h
  · exact ⟨rfl, rfl⟩
theorem size51 : (Try.prog.info? 51).map (·.size) = some 13 := by kernel_rfl
theorem cells_three (w : World) (a b c : Value) : Blk (w.alloc (.cells #[a, b, c] 30)) w.heap.size #[a, b, c] 30 := Blk.new w _ _
def fr50 (pb n : Nat) (u : Nat → Value) : Act :=
  { tmps := ((.pointer (some ⟨pb, 0, none⟩)) :: (u 1) :: (.pointer (some ⟨n, 0, none⟩)) :: (.pointer (some ⟨n + 1, 0, none⟩)) :: (.pointer (some ⟨n + 1 + 1, 0, none⟩)) :: (u 5) :: (u 6) :: (u 7) :: (u 8) :: (u 9) :: (u 10) :: (u 11) :: (u 12) :: (u 13) :: (u 14) :: (u 15) :: (u 16) :: (u 17) :: (u 18) :: (u 19) :: (u 20) :: (u 21) :: (u 22) :: (u 23) :: (u 24) :: (u 25) :: (u 26) :: (u 27) :: (u 28) :: (u 29) :: (u 30) :: (u 31) :: (u 32) :: (u 33) :: (u 34) :: (u 35) :: (u 36) :: (u 37) :: (u 38) :: (u 39) :: (u 40) :: (u 41) :: (u 42) :: (u 43) :: (u 44) :: (u 45) :: (u 46) :: (u 47) :: (u 48) :: (u 49) :: (u 50) :: (u 51) :: (u 52) :: (u 53) :: (u 54) :: (u 55) :: (u 56) :: (u 57) :: (u 58) :: (u 59) :: (u 60) :: (u 61) :: (u 62) :: (u 63) :: (u 64) :: (u 65) :: (u 66) :: (u 67) :: (u 68) :: (u 69) :: (u 70) :: (u 71) :: (u 72) :: (u 73) :: (u 74) :: (u 75) :: (u 76) :: (u 77) :: (u 78) :: (u 79) :: (u 80) :: (u 81) :: (u 82) :: (u 83) :: (u 84) :: (u 85) :: (u 86) :: (u 87) :: (u 88) :: (u 89) :: (u 90) :: (u 91) :: (u 92) :: (u 93) :: (u 94) :: (u 95) :: (u 96) :: (u 97) :: (u 98) :: (u 99) :: (u 100) :: (u 101) :: (u 102) :: (u 103) :: (u 104) :: (u 105) :: (u 106) :: (u 107) :: (u 108) :: (u 109) :: (u 110) :: (u 111) :: (u 112) :: (u 113) :: (u 114) :: (u 115) :: (u 116) :: (u 117) :: (u 118) :: (u 119) :: (u 120) :: (u 121) :: (u 122) :: (u 123) :: (u 124) :: (u 125) :: (u 126) :: (u 127) :: (u 128) :: (u 129) :: (u 130) :: (u 131) :: (u 132) :: (u 133) :: (u 134) :: (u 135) :: (u 136) :: (u 137) :: (u 138) :: (u 139) :: (u 140) :: (u 141) :: (u 142) :: (u 143) :: (u 144) :: (u 145) :: (u 146) :: (u 147) :: (u 148) :: (u 149) :: (u 150) :: (u 151) :: (u 152) :: (u 153) :: (u 154) :: (u 155) :: (u 156) :: (u 157) :: (u 158) :: (u 159) :: (u 160) :: (u 161) :: (u 162) :: (u 163) :: (u 164) :: (u 165) :: (u 166) :: (u 167) :: (u 168) :: (u 169) :: (u 170) :: (u 171) :: (u 172) :: (u 173) :: (u 174) :: (u 175) :: (u 176) :: (u 177) :: (u 178) :: (u 179) :: (u 180) :: (u 181) :: [] : List Value).toArray, defers := [] }
def fr50g (pb n : Nat) (g : Bool) (u : Nat → Value) : Act :=
  { tmps := ((.pointer (some ⟨pb, 0, none⟩)) :: (u 1) :: (.pointer (some ⟨n, 0, none⟩)) :: (.pointer (some ⟨n + 1, 0, none⟩)) :: (.pointer (some ⟨n + 1 + 1, 0, none⟩)) :: (u 5) :: (u 6) :: (u 7) :: (u 8) :: (u 9) :: (u 10) :: (u 11) :: (u 12) :: (u 13) :: (u 14) :: (u 15) :: (u 16) :: (u 17) :: (u 18) :: (u 19) :: (u 20) :: (u 21) :: (u 22) :: (u 23) :: (u 24) :: (u 25) :: (u 26) :: (u 27) :: (u 28) :: (u 29) :: (u 30) :: (u 31) :: (u 32) :: (u 33) :: (u 34) :: (u 35) :: (u 36) :: (u 37) :: (u 38) :: (u 39) :: (u 40) :: (u 41) :: (u 42) :: (u 43) :: (u 44) :: (u 45) :: (u 46) :: (u 47) :: (u 48) :: (u 49) :: (u 50) :: (u 51) :: (u 52) :: (u 53) :: (u 54) :: (u 55) :: (u 56) :: (u 57) :: (u 58) :: (u 59) :: (u 60) :: (u 61) :: (u 62) :: (u 63) :: (u 64) :: (u 65) :: (u 66) :: (u 67) :: (u 68) :: (u 69) :: (u 70) :: (u 71) :: (u 72) :: (u 73) :: (u 74) :: (u 75) :: (u 76) :: (u 77) :: (u 78) :: (u 79) :: (u 80) :: (u 81) :: (u 82) :: (u 83) :: (u 84) :: (u 85) :: (u 86) :: (u 87) :: (u 88) :: (u 89) :: (u 90) :: (u 91) :: (u 92) :: (u 93) :: (u 94) :: (u 95) :: (u 96) :: (u 97) :: (u 98) :: (u 99) :: (u 100) :: (u 101) :: (u 102) :: (u 103) :: (u 104) :: (u 105) :: (u 106) :: (u 107) :: (u 108) :: (u 109) :: (u 110) :: (u 111) :: (u 112) :: (.bool g) :: (u 114) :: (u 115) :: (u 116) :: (u 117) :: (u 118) :: (u 119) :: (u 120) :: (u 121) :: (u 122) :: (u 123) :: (u 124) :: (u 125) :: (u 126) :: (u 127) :: (u 128) :: (u 129) :: (u 130) :: (u 131) :: (u 132) :: (u 133) :: (u 134) :: (u 135) :: (u 136) :: (u 137) :: (u 138) :: (u 139) :: (u 140) :: (u 141) :: (u 142) :: (u 143) :: (u 144) :: (u 145) :: (u 146) :: (u 147) :: (u 148) :: (u 149) :: (u 150) :: (u 151) :: (u 152) :: (u 153) :: (u 154) :: (u 155) :: (u 156) :: (u 157) :: (u 158) :: (u 159) :: (u 160) :: (u 161) :: (u 162) :: (u 163) :: (u 164) :: (u 165) :: (u 166) :: (u 167) :: (u 168) :: (u 169) :: (u 170) :: (u 171) :: (u 172) :: (u 173) :: (u 174) :: (u 175) :: (u 176) :: (u 177) :: (u 178) :: (u 179) :: (u 180) :: (u 181) :: [] : List Value).toArray, defers := [] }
set_option maxRecDepth 100000 in
set_option maxHeartbeats 16000000 in
theorem pstep_any (pb bb cb ub mb : Nat) (fv pv lv gv : Value) (prog : List Int) (last : REP) (B : BD) (U : BusD) (N : Nat) (hpr : ∀ x ∈ prog, W32 x) (hpl : prog.length ≤ 64) (hB : B.Ok) (hU : BOk N U) (hN : N < 1000000000000) (hnow : B.now < 4294967295) (w : World)
    (hp : Blk w pb (pairV bb ub pv last) 93) (hb : BR w bb cb fv B) (hu : UB w ub mb lv gv U) (hs : Sl w pv 30 1 prog.length (prow prog)) (cp : ∀ k, pv.ownBlock = some k → k ≠ cb) (cl : ∀ k, lv.ownBlock = some k → k ≠ cb) :
    Calls Try.prog 50 #[.pointer (some ⟨pb, 0, none⟩)] w fun e w' => e = .returned (.agg (repV (pairF prog B U).r)) ∧ ∃ lv' gv', Blk w' pb (pairV bb ub pv (pairF prog B U).r) 93 ∧ BR w' bb cb fv (pairF prog B U).B ∧ UB w' ub mb lv' gv' (pairF prog B U).U ∧ Fr (KP pb bb cb ub mb gv) w w' ∧ (∀ k, lv'.ownBlock = some k → lv.ownBlock = some k) ∧ (∀ k, gv'.ownBlock = some k → gv.ownBlock = some k ∨ w.heap.size ≤ k) := by
  obtain ⟨pa, pc, hpv⟩ := hs.form'
  obtain ⟨pn, hpn⟩ : ∃ pn, prog.length = pn := ⟨_, rfl⟩
  rw [hpn] at hpv hpl
  subst hpv
  have htk := tick_any ub mb lv gv U (hU.ok hN)
  have hno := tickF_no U
  have hU1 := hU.tick
  have hd1 := tickF_ok U hU.lr
  have HPF : Hid (pairF prog B U = ⟨nextB (edgF (shaF prog (coreF prog 0 (tickF U).2 B).1).1 (alF (shaF prog (coreF prog 0 (tickF U).2 B).1).1 (shaF prog (coreF prog 0 (tickF U).2 B).1).2) (coreF prog 0 (tickF U).2 B).2 (tickF U).2), if goF (shaF prog (coreF prog 0 (tickF U).2 B).1).1 (shaF prog (coreF prog 0 (tickF U).2 B).1).2 = true then issF (tickF U).1 (andB (delF (shaF prog (coreF prog 0 (tickF U).2 B).1).1).c 2 != 0) (delF (shaF prog (coreF prog 0 (tickF U).2 B).1).1).a (delF (shaF prog (coreF prog 0 (tickF U).2 B).1).1).d else (tickF U).1,
    ⟨(coreF prog 0 (tickF U).2 B).2, delF (shaF prog (coreF prog 0 (tickF U).2 B).1).1, (shaF prog (coreF prog 0 (tickF U).2 B).1).2, cmpF (shaF prog (coreF prog 0 (tickF U).2 B).1).1 46 (delF (shaF prog (coreF prog 0 (tickF U).2 B).1).1) (shaF prog (coreF prog 0 (tickF U).2 B).1).2, cmpF (shaF prog (coreF prog 0 (tickF U).2 B).1).1 47 (delF (shaF prog (coreF prog 0 (tickF U).2 B).1).1) (shaF prog (coreF prog 0 (tickF U).2 B).1).2, alF (shaF prog (coreF prog 0 (tickF U).2 B).1).1 (shaF prog (coreF prog 0 (tickF U).2 B).1).2, goF (shaF prog (coreF prog 0 (tickF U).2 B).1).1 (shaF prog (coreF prog 0 (tickF U).2 B).1).2 && !(tickF U).1.busy⟩⟩) := rfl
  rw [HPF.out]
  clear HPF
  have hM1 := coreF_ok prog hpr 0 (tickF U).2 hd1 B hB
  have hM2 := coreF_keep prog 0 (tickF U).2 B
  have hcore := core_any pb 1 bb cb 0 (by decide) fv pa pn pc prog hpn hpl hpr (tickF U).2 B hB
  have hsok := shaF_ok prog hpr (coreF prog 0 (tickF U).2 B).1 hM1.1
  have hskp := shaF_keep prog (coreF prog 0 (tickF U).2 B).1
  generalize hT : tickF U = T at *
  obtain ⟨U1, iv, ie, id⟩ := T
  simp only [] at htk hno hU1 hd1 hM1 hM2 hcore hsok hskp ⊢
  generalize hC : coreF prog 0 ⟨iv, ie, id⟩ B = C at *
  obtain ⟨B1, raw⟩ := C
  simp only [] at hM1 hM2 hcore hsok hskp ⊢
  generalize hS : shaF prog B1 = S at *
  obtain ⟨B2, sha⟩ := S
  simp only [] at hsok hskp ⊢
  obtain ⟨de, hde⟩ : ∃ de, delF B2 = de := ⟨_, rfl⟩
  obtain ⟨fa, hfa⟩ : ∃ fa, cmpF B2 46 de sha = fa := ⟨_, rfl⟩
  obtain ⟨fb, hfb⟩ : ∃ fb, cmpF B2 47 de sha = fb := ⟨_, rfl⟩
  obtain ⟨al, hal⟩ : ∃ al, alF B2 sha = al := ⟨_, rfl⟩
  obtain ⟨gg, hgg⟩ : ∃ gg, goF B2 sha = gg := ⟨_, rfl⟩
  have HAL : Hid (al = (fa || fb || (andB (B2.get 48) 1 == 1))) := by unfold Hid; rw [← hal, ← hfa, ← hfb, ← hde]; rfl
  have HGG : Hid (gg = ((andB de.c 1 != 0) && !al)) := by unfold Hid; rw [← hgg, ← hal, ← hde]; rfl
  rw [hde, hfa, hfb, hal, hgg]
  obtain ⟨U2, hU2⟩ : ∃ U2, (if gg = true then issF U1 (andB de.c 2 != 0) de.a de.d else U1) = U2 := ⟨_, rfl⟩
  obtain ⟨gr, hgr⟩ : ∃ gr, (gg && !U1.busy) = gr := ⟨_, rfl⟩
  obtain ⟨B3, hB3⟩ : ∃ B3, nextB (edgF B2 al raw ⟨iv, ie, id⟩) = B3 := ⟨_, rfl⟩
  rw [hU2, hgr, hB3]
  have hdeok : de.Ok := by rw [← hde]; exact ⟨W32.band _ _, hsok.1.get 44, hsok.1.get 45⟩
  obtain ⟨W, hW⟩ : ∃ W, ((w.alloc (.cells #[.int .u32 0, .int .u32 0, .int .u32 0, .int .u32 0, .int .u32 0, .int .u32 0, .int .u32 0, .int .u32 0, .int .u32 0, .bool false, .bool false, .bool false, .bool false] 51)).alloc (.cells #[.int .u32 0, .int .u32 0, .int .u32 0, .int .u32 0, .int .u32 0, .int .u32 0, .int .u32 0, .int .u32 0, .int .u32 0, .bool false, .bool false, .bool false, .bool false] 51)).alloc (.cells #[.bool false, .bool false, .int .u32 0] 112) = W := ⟨_, rfl⟩
  have HP : Hid (PR w W pb bb cb ub mb fv (.slice pa pn pc) lv gv lv gv prog last w.heap.size (w.heap.size + 1) (w.heap.size + 1 + 1) #[.int .u32 0, .int .u32 0, .int .u32 0, .int .u32 0, .int .u32 0, .int .u32 0, .int .u32 0, .int .u32 0, .int .u32 0, .bool false, .bool false, .bool false, .bool false] #[.int .u32 0, .int .u32 0, .int .u32 0, .int .u32 0, .int .u32 0, .int .u32 0, .int .u32 0, .int .u32 0, .int .u32 0, .bool false, .bool false, .bool false, .bool false] #[.bool false, .bool false, .int .u32 0] B U) := by rw [← hW]; exact pr_start hp hb hu hs cp cl _ _ _
  have HTK := hid_of (htk W HP.out.u)
  have HCORE := hid_of hcore
  have HNO := hid_of hno
  have HOK : Hid (BOk N U1 ∧ W32 id ∧ B1.Ok ∧ raw.Ok ∧ B2.Ok ∧ sha.Ok ∧ de.Ok ∧ B.Ok) := ⟨hU1, hd1, hM1.1, hM1.2, hsok.1, hsok.2, hdeok, hB⟩
  have HKP : Hid ((B1.fs = B.fs ∧ B1.now = B.now) ∧ (B2.fs = B1.fs ∧ B2.now = B1.now)) := ⟨hM2, hskp⟩
  have HSS := hid_of hS
  have HDE := hid_of hde
  have HFA := hid_of hfa
  have HFB := hid_of hfb
  have HU2 := hid_of hU2
  have HGR := hid_of hgr
  have HB3 := hid_of hB3
  have HPN : Hid (prog.length = pn ∧ pn ≤ 64 ∧ ∀ x ∈ prog, W32 x) := ⟨hpn, hpl, hpr⟩
  have HN : Hid (N < 1000000000000 ∧ B.now < 4294967295) := ⟨hN, hnow⟩
  have c13 : W.cell? ⟨pb, 13, none⟩ = some (.pointer (some ⟨ub, 0, none⟩)) := HP.out.hp.cell 13
  clear hp hb hu hs cp cl htk hcore hno hU1 hd1 hM1 hM2 hsok hskp hS hde hfa hfb hal hgg hU2 hgr hB3 hdeok hT hC hpn hpl hpr hN hnow hB hU
  go_enter Try.func50, Try.ntmps50
  go_upto_region 3 with fail
  clear hW
  refine wp_region_list ?_
  go_wp2_with fail
  refine HTK.out.mono ?_
  rintro e w1 ⟨rfl, hu1, f1⟩
  have HP1 : Hid (PR w w1 pb bb cb ub mb fv (.slice pa pn pc) lv gv lv gv prog last w.heap.size (w.heap.size + 1) (w.heap.size + 1 + 1) #[.int .u32 0, .int .u32 0, .int .u32 0, .int .u32 0, .int .u32 0, .int .u32 0, .int .u32 0, .int .u32 0, .int .u32 0, .bool false, .bool false, .bool false, .bool false] #[.int .u32 0, .int .u32 0, .int .u32 0, .int .u32 0, .int .u32 0, .int .u32 0, .int .u32 0, .int .u32 0, .int .u32 0, .bool false, .bool false, .bool false, .bool false] #[.bool false, .bool false, .int .u32 0] B U1) := HP.out.tick hu1 f1
  clear HP HTK hu1 f1 c13
  obtain ⟨W4, hW4⟩ : ∃ W4, w1.alloc (.cells #[.bool ie, .int .u32 id] 66) = W4 := ⟨_, rfl⟩
  have HP4 : Hid (PR w W4 pb bb cb ub mb fv (.slice pa pn pc) lv gv lv gv prog last w.heap.size (w.heap.size + 1) (w.heap.size + 1 + 1) #[.int .u32 0, .int .u32 0, .int .u32 0, .int .u32 0, .int .u32 0, .int .u32 0, .int .u32 0, .int .u32 0, .int .u32 0, .bool false, .bool false, .bool false, .bool false] #[.int .u32 0, .int .u32 0, .int .u32 0, .int .u32 0, .int .u32 0, .int .u32 0, .int .u32 0, .int .u32 0, .int .u32 0, .bool false, .bool false, .bool false, .bool false] #[.bool false, .bool false, .int .u32 0] B U1) := by rw [← hW4]; exact HP1.out.below ((Below.refl _ _).alloc (Nat.le_refl _) _)
  have hb66 : Blk W4 w1.heap.size #[.bool ie, .int .u32 id] 66 := by rw [← hW4]; exact Blk.new _ _ _
  have HB66 := hid_of hb66
  clear hb66 HP1
  go_upto_if 16 with fail
  clear hW4
  refine cutM (Km := fun act wc => ∃ u, act = fr50 pb w.heap.size u ∧ Hid (PR w wc pb bb cb ub mb fv (.slice pa pn pc) lv gv lv gv prog last w.heap.size (w.heap.size + 1) (w.heap.size + 1 + 1) #[.int .u32 0, .int .u32 0, .int .u32 0, .int .u32 0, .int .u32 0, .int .u32 0, .int .u32 0, .int .u32 0, .int .u32 0, .bool false, .bool false, .bool false, .bool false] #[.int .u32 0, .int .u32 0, .int .u32 0, .int .u32 0, .int .u32 0, .int .u32 0, .int .u32 0, .int .u32 0, .int .u32 0, .bool false, .bool false, .bool false, .bool false] #[.bool iv, .bool ie, .int .u32 id] B U1)) ?rest ?first
  case first =>
    obtain ⟨KR, hKR⟩ : ∃ KR : Act → World → Prop, KR = fun act wc => ∃ u, act = fr50 pb w.heap.size u ∧ Hid (PR w wc pb bb cb ub mb fv (.slice pa pn pc) lv gv lv gv prog last w.heap.size (w.heap.size + 1) (w.heap.size + 1 + 1) #[.int .u32 0, .int .u32 0, .int .u32 0, .int .u32 0, .int .u32 0, .int .u32 0, .int .u32 0, .int .u32 0, .int .u32 0, .bool false, .bool false, .bool false, .bool false] #[.int .u32 0, .int .u32 0, .int .u32 0, .int .u32 0, .int .u32 0, .int .u32 0, .int .u32 0, .int .u32 0, .int .u32 0, .bool false, .bool false, .bool false, .bool false] #[.bool iv, .bool ie, .int .u32 id] B U1) := ⟨_, rfl⟩
    have HKR : Hid (∀ (act : Act) (wc : World), act = fr50 pb w.heap.size (fun i => act.tmps.getD i undef) → PR w wc pb bb cb ub mb fv (.slice pa pn pc) lv gv lv gv prog last w.heap.size (w.heap.size + 1) (w.heap.size + 1 + 1) #[.int .u32 0, .int .u32 0, .int .u32 0, .int .u32 0, .int .u32 0, .int .u32 0, .int .u32 0, .int .u32 0, .int .u32 0, .bool false, .bool false, .bool false, .bool false] #[.int .u32 0, .int .u32 0, .int .u32 0, .int .u32 0, .int .u32 0, .int .u32 0, .int .u32 0, .int .u32 0, .int .u32 0, .bool false, .bool false, .bool false, .bool false] #[.bool iv, .bool ie, .int .u32 id] B U1 → KR act wc) := fun act wc e h => by rw [hKR]; exact ⟨_, e, h⟩
    rw [← hKR]
    clear hKR
    cases iv
    · have HX : Hid (PR w W4 pb bb cb ub mb fv (.slice pa pn pc) lv gv lv gv prog last w.heap.size (w.heap.size + 1) (w.heap.size + 1 + 1) #[.int .u32 0, .int .u32 0, .int .u32 0, .int .u32 0, .int .u32 0, .int .u32 0, .int .u32 0, .int .u32 0, .int .u32 0, .bool false, .bool false, .bool false, .bool false] #[.int .u32 0, .int .u32 0, .int .u32 0, .int .u32 0, .int .u32 0, .int .u32 0, .int .u32 0, .int .u32 0, .int .u32 0, .bool false, .bool false, .bool false, .bool false] #[.bool false, .bool ie, .int .u32 id] B U1) := by
        have h9 := HNO.out rfl
        rw [h9.1, h9.2]; exact HP4.out
      clear HP4
      go_wp2_with fail
      exact HKR.out _ _ (by kernel_rfl) HX.out
    · have z0 : W4.cell? ⟨w1.heap.size, 0, none⟩ = some (.bool ie) := HB66.out.cell 0
      have z1 : W4.cell? ⟨w1.heap.size, 1, none⟩ = some (.int .u32 id) := HB66.out.cell 1
      have hne : w1.heap.size ≠ (w.heap.size + 1 + 1) := HB66.out.neT HP4.out.hi (by decide)
      obtain ⟨u, hu, hl⟩ := HP4.out.hi.out
      have HX : Hid (PR w (put u (w.heap.size + 1 + 1) #[.bool true, .bool ie, .int .u32 id] 112) pb bb cb ub mb fv (.slice pa pn pc) lv gv lv gv prog last w.heap.size (w.heap.size + 1) (w.heap.size + 1 + 1) #[.int .u32 0, .int .u32 0, .int .u32 0, .int .u32 0, .int .u32 0, .int .u32 0, .int .u32 0, .int .u32 0, .int .u32 0, .bool false, .bool false, .bool false, .bool false] #[.int .u32 0, .int .u32 0, .int .u32 0, .int .u32 0, .int .u32 0, .int .u32 0, .int .u32 0, .int .u32 0, .int .u32 0, .bool false, .bool false, .bool false, .bool false] #[.bool true, .bool ie, .int .u32 id] B U1) := by
        have := HP4.out.inp #[.bool true, .bool ie, .int .u32 id]
        rw [hu, put_put] at this
        exact this
      rw [hu, put_cell_ne _ _ _ _ _ _ _ hne] at z0 z1
      clear HP4 HB66
      subst hu
      go_wp2_with fail
      exact HKR.out _ _ (by kernel_rfl) HX.out
  case rest =>
  clear HP4 HB66
  rintro act wc ⟨u, rfl, HP⟩
  unfold fr50
  have HC : Hid (Calls Try.prog 62 #[.pointer (some ⟨pb, 1, none⟩), .agg #[.bool iv, .bool ie, .int .u32 id]] wc.drew fun e w' => e = .returned (.agg (buV raw)) ∧ Tn wc.drew w' cb B1.c) := by
    have h9 := HP.out.drew
    exact HCORE.out wc.drew h9.cr0 h9.br (by have := h9.sl; rw [HPN.out.1] at this; exact this) (h9.hp.neT h9.br.cel (by decide))
  go_upto_region 6 with fail
  refine wp_region_float [0, 1, 2, 3] [4, 5, 6] [0, 1, 2] mixed (fun ω => Blk ω (w.heap.size + 1 + 1) #[.bool iv, .bool ie, .int .u32 id] 112) (by kernel_rfl) rfl (by kernel_rfl) HP.out.drew.hi ?_
  iterate 3 refine wpFl_op _ _ _ _ rfl rfl (fun ω hj => by go_simp; rfl) ?_
  refine wpFl_op _ _ _ _ rfl rfl (fun ω hj => by
    have q0 : ω.cell? ⟨w.heap.size + 1 + 1, 0, none⟩ = some (.bool iv) := (hj rfl).cell 0
    have q1 : ω.cell? ⟨w.heap.size + 1 + 1, 1, none⟩ = some (.bool ie) := (hj rfl).cell 1
    have q2 : ω.cell? ⟨w.heap.size + 1 + 1, 2, none⟩ = some (.int .u32 id) := (hj rfl).cell 2
    go_simp; rfl) ?_
  refine wpFl_nil _ _ ?_
  simp only [Act.put, List.setIfInBounds_toArray]
  refine wpCh_rest _ _ _ _ [_, _, _] _ _ rfl (by kernel_rfl) ?_
  simp only [List.getElem_toArray, List.getElem_cons_succ, List.getElem_cons_zero]
  go_wp2_with fail
  refine HC.out.mono ?_
  rintro e w2 ⟨rfl, ht2⟩
  have HP2 : Hid (PR w w2 pb bb cb ub mb fv (.slice pa pn pc) lv gv lv gv prog last w.heap.size (w.heap.size + 1) (w.heap.size + 1 + 1) #[.int .u32 0, .int .u32 0, .int .u32 0, .int .u32 0, .int .u32 0, .int .u32 0, .int .u32 0, .int .u32 0, .int .u32 0, .bool false, .bool false, .bool false, .bool false] #[.int .u32 0, .int .u32 0, .int .u32 0, .int .u32 0, .int .u32 0, .int .u32 0, .int .u32 0, .int .u32 0, .int .u32 0, .bool false, .bool false, .bool false, .bool false] #[.bool iv, .bool ie, .int .u32 id] B1 U1) := HP.out.drew.core ht2 HKP.out.1.1 HKP.out.1.2
  clear HC HP ht2
  obtain ⟨u2, hu2, hl2⟩ := HP2.out.ht.out
  have HP3 : Hid (PR w (put u2 (w.heap.size + 1) #[.int .u32 raw.c, .int .u32 raw.a, .int .u32 raw.d, .int .u32 0, .int .u32 0, .int .u32 0, .int .u32 0, .int .u32 0, .int .u32 0, .bool false, .bool false, .bool false, .bool false] 51) pb bb cb ub mb fv (.slice pa pn pc) lv gv lv gv prog last w.heap.size (w.heap.size + 1) (w.heap.size + 1 + 1) #[.int .u32 0, .int .u32 0, .int .u32 0, .int .u32 0, .int .u32 0, .int .u32 0, .int .u32 0, .int .u32 0, .int .u32 0, .bool false, .bool false, .bool false, .bool false] #[.int .u32 raw.c, .int .u32 raw.a, .int .u32 raw.d, .int .u32 0, .int .u32 0, .int .u32 0, .int .u32 0, .int .u32 0, .int .u32 0, .bool false, .bool false, .bool false, .bool false] #[.bool iv, .bool ie, .int .u32 id] B1 U1) := by
    have := HP2.out.rep #[.int .u32 raw.c, .int .u32 raw.a, .int .u32 raw.d, .int .u32 0, .int .u32 0, .int .u32 0, .int .u32 0, .int .u32 0, .int .u32 0, .bool false, .bool false, .bool false, .bool false]
    rw [hu2, put_put] at this
    exact this
  clear HP2
  subst hu2
  unfold buV
  go_upto_region 7 with fail
  obtain ⟨w3, hw3⟩ : ∃ w3, put u2 (w.heap.size + 1) #[.int .u32 raw.c, .int .u32 raw.a, .int .u32 raw.d, .int .u32 0, .int .u32 0, .int .u32 0, .int .u32 0, .int .u32 0, .int .u32 0, .bool false, .bool false, .bool false, .bool false] 51 = w3 := ⟨_, rfl⟩
  rw [hw3] at HP3 ⊢
  clear hw3 hl2
  have c0 : w3.cell? ⟨pb, 0, none⟩ = some (.pointer (some ⟨bb, 0, none⟩)) := HP3.out.hp.cell 0
  have HNW := hid_of (now_any bb cb fv B1 w3 HP3.out.br)
  obtain ⟨nw, hnw⟩ : ∃ nw, B1.now = nw := ⟨_, rfl⟩
  rw [hnw] at HNW
  have HNW2 := hid_of hnw
  clear hnw
  refine wp_region_list ?_
  go_wp2_with fail
  refine HNW.out.mono ?_
  rintro e w4 ⟨rfl, hw4⟩
  obtain rfl := hw4.symm
  clear HNW c0
  go_upto_if 33 with fail
  refine cutM (Km := fun act wc => ∃ u, act = fr50 pb w.heap.size u ∧ Hid (PR w wc pb bb cb ub mb fv (.slice pa pn pc) lv gv lv gv prog last w.heap.size (w.heap.size + 1) (w.heap.size + 1 + 1) #[.int .u32 0, .int .u32 0, .int .u32 0, .int .u32 0, .int .u32 0, .int .u32 0, .int .u32 0, .int .u32 0, .int .u32 0, .bool false, .bool false, .bool false, .bool false] #[.int .u32 raw.c, .int .u32 raw.a, .int .u32 raw.d, .int .u32 0, .int .u32 0, .int .u32 0, .int .u32 sha.c, .int .u32 sha.a, .int .u32 sha.d, .bool false, .bool false, .bool false, .bool false] #[.bool iv, .bool ie, .int .u32 id] B2 U1)) ?rest ?first
  case first =>
    obtain ⟨KR, hKR⟩ : ∃ KR : Act → World → Prop, KR = fun act wc => ∃ u, act = fr50 pb w.heap.size u ∧ Hid (PR w wc pb bb cb ub mb fv (.slice pa pn pc) lv gv lv gv prog last w.heap.size (w.heap.size + 1) (w.heap.size + 1 + 1) #[.int .u32 0, .int .u32 0, .int .u32 0, .int .u32 0, .int .u32 0, .int .u32 0, .int .u32 0, .int .u32 0, .int .u32 0, .bool false, .bool false, .bool false, .bool false] #[.int .u32 raw.c, .int .u32 raw.a, .int .u32 raw.d, .int .u32 0, .int .u32 0, .int .u32 0, .int .u32 sha.c, .int .u32 sha.a, .int .u32 sha.d, .bool false, .bool false, .bool false, .bool false] #[.bool iv, .bool ie, .int .u32 id] B2 U1) := ⟨_, rfl⟩
    have HKR : Hid (∀ (act : Act) (wc : World), act = fr50 pb w.heap.size (fun i => act.tmps.getD i undef) → PR w wc pb bb cb ub mb fv (.slice pa pn pc) lv gv lv gv prog last w.heap.size (w.heap.size + 1) (w.heap.size + 1 + 1) #[.int .u32 0, .int .u32 0, .int .u32 0, .int .u32 0, .int .u32 0, .int .u32 0, .int .u32 0, .int .u32 0, .int .u32 0, .bool false, .bool false, .bool false, .bool false] #[.int .u32 raw.c, .int .u32 raw.a, .int .u32 raw.d, .int .u32 0, .int .u32 0, .int .u32 0, .int .u32 sha.c, .int .u32 sha.a, .int .u32 sha.d, .bool false, .bool false, .bool false, .bool false] #[.bool iv, .bool ie, .int .u32 id] B2 U1 → KR act wc) := fun act wc e h => by rw [hKR]; exact ⟨_, e, h⟩
    rw [← hKR]
    clear hKR
    by_cases hge : nw ≥ 2
    · have HS2 : Hid ((coreF prog 18 (shaI B1) B1) = (B2, sha)) := by
        have := HSS.out
        unfold shaF at this
        rw [HNW2.out, if_pos hge] at this
        exact this
      have p7 : w3.cell? ⟨pb, 7, none⟩ = some (.pointer (some ⟨bb, 0, none⟩)) := HP3.out.hp.cell 7
      have p8 : w3.cell? ⟨pb, 8, none⟩ = some (.int .i64 36) := HP3.out.hp.cell 8
      have p9 : w3.cell? ⟨pb, 9, none⟩ = some (.int .i64 2) := HP3.out.hp.cell 9
      have HO : Hid (Calls Try.prog 64 #[.agg #[.pointer (some ⟨bb, 0, none⟩), .int .i64 36, .int .i64 2], .int .i64 0] w3 fun e w' => e = .returned (.int .u32 (B1.get 38)) ∧ Below w3.heap.size w3 w') := oldest_any bb cb 36 2 0 (by decide) (by decide) (by decide) fv B1 w3 HP3.out.br
      obtain ⟨fl, hfl⟩ : ∃ fl, B1.get 38 = fl := ⟨_, rfl⟩
      rw [hfl] at HO
      have HFL := hid_of hfl
      clear hfl
      go_upto_region 8 with fail
      refine wp_region_list ?_
      go_wp2_with fail
      refine HO.out.mono ?_
      rintro e w4 ⟨rfl, hb4⟩
      have HP4 : Hid (PR w w4 pb bb cb ub mb fv (.slice pa pn pc) lv gv lv gv prog last w.heap.size (w.heap.size + 1) (w.heap.size + 1 + 1) #[.int .u32 0, .int .u32 0, .int .u32 0, .int .u32 0, .int .u32 0, .int .u32 0, .int .u32 0, .int .u32 0, .int .u32 0, .bool false, .bool false, .bool false, .bool false] #[.int .u32 raw.c, .int .u32 raw.a, .int .u32 raw.d, .int .u32 0, .int .u32 0, .int .u32 0, .int .u32 0, .int .u32 0, .int .u32 0, .bool false, .bool false, .bool false, .bool false] #[.bool iv, .bool ie, .int .u32 id] B1 U1) := HP3.out.below hb4
      clear HO HP3 hb4 p7 p8 p9
      go_upto_region 9 with fail
      have HO : Hid (Calls Try.prog 64 #[.agg #[.pointer (some ⟨bb, 0, none⟩), .int .i64 36, .int .i64 2], .int .i64 1] w4.drew fun e w' => e = .returned (.int .u32 (B1.get 39)) ∧ Below w4.drew.heap.size w4.drew w') := oldest_any bb cb 36 2 1 (by decide) (by decide) (by decide) fv B1 w4.drew HP4.out.drew.br
      obtain ⟨sd, hsd⟩ : ∃ sd, B1.get 39 = sd := ⟨_, rfl⟩
      rw [hsd] at HO
      have HSD := hid_of hsd
      clear hsd
      refine wp_region_float [0, 1, 2, 3, 4, 5, 6, 7, 8, 9, 10, 11, 12] [13, 14, 15, 16, 17] [0, 1, 2, 3, 4, 5, 6, 7, 8, 9, 10, 11] mixed (fun ω => Blk ω pb (pairV bb ub (.slice pa pn pc) last) 93) (by kernel_rfl) rfl (by kernel_rfl) HP4.out.drew.hp ?_
      iterate 12 refine wpFl_op _ _ _ _ rfl rfl (fun ω hj => by go_simp; rfl) ?_
      refine wpFl_op _ _ _ _ rfl rfl (fun ω hj => by
        have q0 : ω.cell? ⟨pb, 7, none⟩ = some (.pointer (some ⟨bb, 0, none⟩)) := (hj rfl).cell 7
        have q1 : ω.cell? ⟨pb, 8, none⟩ = some (.int .i64 36) := (hj rfl).cell 8
        have q2 : ω.cell? ⟨pb, 9, none⟩ = some (.int .i64 2) := (hj rfl).cell 9
        go_simp; rfl) ?_
      refine wpFl_nil _ _ ?_
      simp only [Act.put, List.setIfInBounds_toArray]
      refine wpCh_rest _ _ _ _ [_, _, _, _, _] _ _ rfl (by kernel_rfl) ?_
      simp only [List.getElem_toArray, List.getElem_cons_succ, List.getElem_cons_zero]
      go_wp2_with fail
      refine HO.out.mono ?_
      rintro e w5 ⟨rfl, hb5⟩
      have HP5 : Hid (PR w w5 pb bb cb ub mb fv (.slice pa pn pc) lv gv lv gv prog last w.heap.size (w.heap.size + 1) (w.heap.size + 1 + 1) #[.int .u32 0, .int .u32 0, .int .u32 0, .int .u32 0, .int .u32 0, .int .u32 0, .int .u32 0, .int .u32 0, .int .u32 0, .bool false, .bool false, .bool false, .bool false] #[.int .u32 raw.c, .int .u32 raw.a, .int .u32 raw.d, .int .u32 0, .int .u32 0, .int .u32 0, .int .u32 0, .int .u32 0, .int .u32 0, .bool false, .bool false, .bool false, .bool false] #[.bool iv, .bool ie, .int .u32 id] B1 U1) := HP4.out.drew.below hb5
      clear HO HP4 hb5
      have HC2 : Hid (Calls Try.prog 62 #[.pointer (some ⟨pb, 4, none⟩), .agg #[.bool (bits BinOp.and IntKind.u32 fl 1 != 0), .bool (bits BinOp.and IntKind.u32 fl 2 != 0), .int .u32 sd]] w5 fun e w' => e = .returned (.agg (buV sha)) ∧ Tn w5 w' cb B2.c) := by
        have h9 := HP5.out
        have h8 := core_any pb 4 bb cb 18 (by decide) fv pa pn pc prog HPN.out.1 HPN.out.2.1 HPN.out.2.2 (shaI B1) B1 HOK.out.2.2.1 w5 h9.cr1 h9.br (by have := h9.sl; rw [HPN.out.1] at this; exact this) (h9.hp.neT h9.br.cel (by decide))
        rw [HS2.out] at h8
        unfold shaI at h8
        rw [HFL.out, HSD.out] at h8
        exact h8
      go_wp2_with fail
      refine HC2.out.mono ?_
      rintro e w6 ⟨rfl, ht6⟩
      have HP6 : Hid (PR w w6 pb bb cb ub mb fv (.slice pa pn pc) lv gv lv gv prog last w.heap.size (w.heap.size + 1) (w.heap.size + 1 + 1) #[.int .u32 0, .int .u32 0, .int .u32 0, .int .u32 0, .int .u32 0, .int .u32 0, .int .u32 0, .int .u32 0, .int .u32 0, .bool false, .bool false, .bool false, .bool false] #[.int .u32 raw.c, .int .u32 raw.a, .int .u32 raw.d, .int .u32 0, .int .u32 0, .int .u32 0, .int .u32 0, .int .u32 0, .int .u32 0, .bool false, .bool false, .bool false, .bool false] #[.bool iv, .bool ie, .int .u32 id] B2 U1) := HP5.out.core ht6 HKP.out.2.1 HKP.out.2.2
      clear HC2 HP5 ht6
      obtain ⟨u7, hu7, hl7⟩ := HP6.out.ht.out
      have HP7 : Hid (PR w (put u7 (w.heap.size + 1) #[.int .u32 raw.c, .int .u32 raw.a, .int .u32 raw.d, .int .u32 0, .int .u32 0, .int .u32 0, .int .u32 sha.c, .int .u32 sha.a, .int .u32 sha.d, .bool false, .bool false, .bool false, .bool false] 51) pb bb cb ub mb fv (.slice pa pn pc) lv gv lv gv prog last w.heap.size (w.heap.size + 1) (w.heap.size + 1 + 1) #[.int .u32 0, .int .u32 0, .int .u32 0, .int .u32 0, .int .u32 0, .int .u32 0, .int .u32 0, .int .u32 0, .int .u32 0, .bool false, .bool false, .bool false, .bool false] #[.int .u32 raw.c, .int .u32 raw.a, .int .u32 raw.d, .int .u32 0, .int .u32 0, .int .u32 0, .int .u32 sha.c, .int .u32 sha.a, .int .u32 sha.d, .bool false, .bool false, .bool false, .bool false] #[.bool iv, .bool ie, .int .u32 id] B2 U1) := by
        have := HP6.out.rep #[.int .u32 raw.c, .int .u32 raw.a, .int .u32 raw.d, .int .u32 0, .int .u32 0, .int .u32 0, .int .u32 sha.c, .int .u32 sha.a, .int .u32 sha.d, .bool false, .bool false, .bool false, .bool false]
        rw [hu7, put_put] at this
        exact this
      clear HP6
      subst hu7
      unfold buV
      go_wp2_with fail
      exact HKR.out _ _ (by kernel_rfl) HP7.out
    · have HX : Hid (PR w w3 pb bb cb ub mb fv (.slice pa pn pc) lv gv lv gv prog last w.heap.size (w.heap.size + 1) (w.heap.size + 1 + 1) #[.int .u32 0, .int .u32 0, .int .u32 0, .int .u32 0, .int .u32 0, .int .u32 0, .int .u32 0, .int .u32 0, .int .u32 0, .bool false, .bool false, .bool false, .bool false] #[.int .u32 raw.c, .int .u32 raw.a, .int .u32 raw.d, .int .u32 0, .int .u32 0, .int .u32 0, .int .u32 sha.c, .int .u32 sha.a, .int .u32 sha.d, .bool false, .bool false, .bool false, .bool false] #[.bool iv, .bool ie, .int .u32 id] B2 U1) := by
        have := HSS.out
        unfold shaF at this
        rw [HNW2.out, if_neg hge] at this
        injection this with e1 e2
        rw [← e1, ← e2]
        exact HP3.out
      clear HP3
      go_wp2_with fail
      exact HKR.out _ _ (by kernel_rfl) HX.out
  case rest =>
  clear HP3 HNW2 HSS HCORE HNO
  rintro act wc ⟨u, rfl, HP⟩
  unfold fr50
  go_upto_region 10 with fail
  refine cutM (Km := fun act wc => ∃ u, act = fr50 pb w.heap.size u ∧ Hid (PR w wc pb bb cb ub mb fv (.slice pa pn pc) lv gv lv gv prog last w.heap.size (w.heap.size + 1) (w.heap.size + 1 + 1) #[.int .u32 0, .int .u32 0, .int .u32 0, .int .u32 0, .int .u32 0, .int .u32 0, .int .u32 0, .int .u32 0, .int .u32 0, .bool false, .bool false, .bool false, .bool false] #[.int .u32 raw.c, .int .u32 raw.a, .int .u32 raw.d, .int .u32 de.c, .int .u32 de.a, .int .u32 de.d, .int .u32 sha.c, .int .u32 sha.a, .int .u32 sha.d, .bool false, .bool false, .bool false, .bool false] #[.bool iv, .bool ie, .int .u32 id] B2 U1)) ?rest ?first
  case first =>
    obtain ⟨KR, hKR⟩ : ∃ KR : Act → World → Prop, KR = fun act wc => ∃ u, act = fr50 pb w.heap.size u ∧ Hid (PR w wc pb bb cb ub mb fv (.slice pa pn pc) lv gv lv gv prog last w.heap.size (w.heap.size + 1) (w.heap.size + 1 + 1) #[.int .u32 0, .int .u32 0, .int .u32 0, .int .u32 0, .int .u32 0, .int .u32 0, .int .u32 0, .int .u32 0, .int .u32 0, .bool false, .bool false, .bool false, .bool false] #[.int .u32 raw.c, .int .u32 raw.a, .int .u32 raw.d, .int .u32 de.c, .int .u32 de.a, .int .u32 de.d, .int .u32 sha.c, .int .u32 sha.a, .int .u32 sha.d, .bool false, .bool false, .bool false, .bool false] #[.bool iv, .bool ie, .int .u32 id] B2 U1) := ⟨_, rfl⟩
    have HKR : Hid (∀ (act : Act) (wc : World), act = fr50 pb w.heap.size (fun i => act.tmps.getD i undef) → PR w wc pb bb cb ub mb fv (.slice pa pn pc) lv gv lv gv prog last w.heap.size (w.heap.size + 1) (w.heap.size + 1 + 1) #[.int .u32 0, .int .u32 0, .int .u32 0, .int .u32 0, .int .u32 0, .int .u32 0, .int .u32 0, .int .u32 0, .int .u32 0, .bool false, .bool false, .bool false, .bool false] #[.int .u32 raw.c, .int .u32 raw.a, .int .u32 raw.d, .int .u32 de.c, .int .u32 de.a, .int .u32 de.d, .int .u32 sha.c, .int .u32 sha.a, .int .u32 sha.d, .bool false, .bool false, .bool false, .bool false] #[.bool iv, .bool ie, .int .u32 id] B2 U1 → KR act wc) := fun act wc e h => by rw [hKR]; exact ⟨_, e, h⟩
    rw [← hKR]
    clear hKR
    obtain ⟨dc, da, dd⟩ := de
    obtain ⟨x0, hx0⟩ : ∃ x0, B2.get 43 = x0 := ⟨_, rfl⟩
    have HD : Hid (bits BinOp.and IntKind.u32 x0 15 = dc ∧ B2.get 44 = da ∧ B2.get 45 = dd) := by
      have := HDE.out
      unfold delF at this
      injection this with e1 e2 e3
      exact ⟨by rw [← hx0]; exact e1, e2, e3⟩
    have HD0 := hid_of hx0
    have HD1 := hid_of HD.out.2.1
    have HD2 := hid_of HD.out.2.2
    have hand := HD.out.1
    clear hx0 HD
    refine wp_region_tree [0, 1, 2, 3, 6, 7, 8, 9, 11, 12, 13, 14] [4] 6 [0, 1, 2, 6, 7, 8, 11, 12, 13] mixed (fun ω => Blk ω pb (pairV bb ub (.slice pa pn pc) last) 93) (by kernel_rfl) rfl (by kernel_rfl) HP.out.drew.hp ?_
    iterate 12 refine wpFl_op _ _ _ _ rfl rfl (fun ω hj => by
      first
      | (go_simp; rfl)
      | (have q0 : ω.cell? ⟨pb, 10, none⟩ = some (.pointer (some ⟨bb, 0, none⟩)) := (hj rfl).cell 10
         have q1 : ω.cell? ⟨pb, 11, none⟩ = some (.int .i64 40) := (hj rfl).cell 11
         have q2 : ω.cell? ⟨pb, 12, none⟩ = some (.int .i64 3) := (hj rfl).cell 12
         go_simp; rfl)) ?_
    refine wpFl_nil _ _ ?_
    simp only [Act.put, List.setIfInBounds_toArray]
    refine wpCh_one _ _ _ _ rfl ?_
    have HQ := hid_of HP.out.drew
    clear HP
    have HO : Hid (Calls Try.prog 64 #[.agg #[.pointer (some ⟨bb, 0, none⟩), .int .i64 40, .int .i64 3], .int .i64 0] wc.drew fun e w' => e = .returned (.int .u32 (B2.get 43)) ∧ Below wc.drew.heap.size wc.drew w') := oldest_any bb cb 40 3 0 (by decide) (by decide) (by decide) fv B2 wc.drew HQ.out.br
    rw [HD0.out] at HO
    go_wp2_with fail
    refine HO.out.mono ?_
    rintro e v0 ⟨rfl, hb⟩
    have HQ : Hid (PR w v0 pb bb cb ub mb fv (.slice pa pn pc) lv gv lv gv prog last w.heap.size (w.heap.size + 1) (w.heap.size + 1 + 1) #[.int .u32 0, .int .u32 0, .int .u32 0, .int .u32 0, .int .u32 0, .int .u32 0, .int .u32 0, .int .u32 0, .int .u32 0, .bool false, .bool false, .bool false, .bool false] #[.int .u32 raw.c, .int .u32 raw.a, .int .u32 raw.d, .int .u32 0, .int .u32 0, .int .u32 0, .int .u32 sha.c, .int .u32 sha.a, .int .u32 sha.d, .bool false, .bool false, .bool false, .bool false] #[.bool iv, .bool ie, .int .u32 id] B2 U1) := HQ.out.below hb
    clear HO hb
    go_wp2_with fail
    refine ⟨HQ.out.hp, ?_⟩
    refine wpAnyJ_stepJ _ _ _ _ [5, 10] (by kernel_rfl) rfl (by kernel_rfl) ?_
    intro i hi
    simp only [List.mem_cons, List.not_mem_nil, or_false] at hi
    rcases hi with rfl | rfl
    · refine wpOp_list _ rfl ?_
      go_wp2_with fail
      refine ⟨fun _ => HQ.out.hp, ?_⟩
      refine wpAnyJ_stepJ _ _ _ _ [10] (by kernel_rfl) rfl (by kernel_rfl) ?_
      intro i hi
      obtain rfl : i = 10 := by simpa using hi
      refine wpOp_list _ rfl ?_
      have HO : Hid (Calls Try.prog 64 #[.agg #[.pointer (some ⟨bb, 0, none⟩), .int .i64 40, .int .i64 3], .int .i64 1] v0 fun e w' => e = .returned (.int .u32 (B2.get 44)) ∧ Below v0.heap.size v0 w') := oldest_any bb cb 40 3 1 (by decide) (by decide) (by decide) fv B2 v0 HQ.out.br
      rw [HD1.out] at HO
      go_wp2_with fail
      refine HO.out.mono ?_
      rintro e v1 ⟨rfl, hb⟩
      have HQ : Hid (PR w v1 pb bb cb ub mb fv (.slice pa pn pc) lv gv lv gv prog last w.heap.size (w.heap.size + 1) (w.heap.size + 1 + 1) #[.int .u32 0, .int .u32 0, .int .u32 0, .int .u32 0, .int .u32 0, .int .u32 0, .int .u32 0, .int .u32 0, .int .u32 0, .bool false, .bool false, .bool false, .bool false] #[.int .u32 raw.c, .int .u32 raw.a, .int .u32 raw.d, .int .u32 0, .int .u32 0, .int .u32 0, .int .u32 sha.c, .int .u32 sha.a, .int .u32 sha.d, .bool false, .bool false, .bool false, .bool false] #[.bool iv, .bool ie, .int .u32 id] B2 U1) := HQ.out.below hb
      clear HO hb
      go_wp2_with fail
      refine ⟨fun _ => HQ.out.hp, ?_⟩
      refine wpAnyJ_stepJ _ _ _ _ [15] (by kernel_rfl) rfl (by kernel_rfl) ?_
      intro i hi
      obtain rfl : i = 15 := by simpa using hi
      refine wpOp_list _ rfl ?_
      have HO : Hid (Calls Try.prog 64 #[.agg #[.pointer (some ⟨bb, 0, none⟩), .int .i64 40, .int .i64 3], .int .i64 2] v1 fun e w' => e = .returned (.int .u32 (B2.get 45)) ∧ Below v1.heap.size v1 w') := oldest_any bb cb 40 3 2 (by decide) (by decide) (by decide) fv B2 v1 HQ.out.br
      rw [HD2.out] at HO
      go_wp2_with fail
      refine HO.out.mono ?_
      rintro e v2 ⟨rfl, hb⟩
      have HQ : Hid (PR w v2 pb bb cb ub mb fv (.slice pa pn pc) lv gv lv gv prog last w.heap.size (w.heap.size + 1) (w.heap.size + 1 + 1) #[.int .u32 0, .int .u32 0, .int .u32 0, .int .u32 0, .int .u32 0, .int .u32 0, .int .u32 0, .int .u32 0, .int .u32 0, .bool false, .bool false, .bool false, .bool false] #[.int .u32 raw.c, .int .u32 raw.a, .int .u32 raw.d, .int .u32 0, .int .u32 0, .int .u32 0, .int .u32 sha.c, .int .u32 sha.a, .int .u32 sha.d, .bool false, .bool false, .bool false, .bool false] #[.bool iv, .bool ie, .int .u32 id] B2 U1) := HQ.out.below hb
      clear HO hb
      go_wp2_with fail
      refine ⟨fun _ => HQ.out.hp, ?_⟩
      refine wpAnyJ_stepJ _ _ _ _ [16] (by kernel_rfl) rfl (by kernel_rfl) ?_
      intro i hi
      obtain rfl : i = 16 := by simpa using hi
      refine wpOp_list _ rfl ?_
      go_wp2_with fail
      refine ⟨fun _ => HQ.out.hp, ?_⟩
      refine wpAnyJ_stepJ _ _ _ _ [17] (by kernel_rfl) rfl (by kernel_rfl) ?_
      intro i hi
      obtain rfl : i = 17 := by simpa using hi
      refine wpOp_list _ rfl ?_
      go_wp2_with fail
      refine ⟨fun _ => HQ.out.hp, ?_⟩
      refine wpAnyJ_stepJ _ _ _ _ [18] (by kernel_rfl) rfl (by kernel_rfl) ?_
      intro i hi
      obtain rfl : i = 18 := by simpa using hi
      refine wpOp_list _ rfl ?_
      obtain ⟨u7, hu7, hl7⟩ := HQ.out.ht.out
      have HQ9 : Hid (PR w (put u7 (w.heap.size + 1) #[.int .u32 raw.c, .int .u32 raw.a, .int .u32 raw.d, .int .u32 dc, .int .u32 da, .int .u32 dd, .int .u32 sha.c, .int .u32 sha.a, .int .u32 sha.d, .bool false, .bool false, .bool false, .bool false] 51) pb bb cb ub mb fv (.slice pa pn pc) lv gv lv gv prog last w.heap.size (w.heap.size + 1) (w.heap.size + 1 + 1) #[.int .u32 0, .int .u32 0, .int .u32 0, .int .u32 0, .int .u32 0, .int .u32 0, .int .u32 0, .int .u32 0, .int .u32 0, .bool false, .bool false, .bool false, .bool false] #[.int .u32 raw.c, .int .u32 raw.a, .int .u32 raw.d, .int .u32 dc, .int .u32 da, .int .u32 dd, .int .u32 sha.c, .int .u32 sha.a, .int .u32 sha.d, .bool false, .bool false, .bool false, .bool false] #[.bool iv, .bool ie, .int .u32 id] B2 U1) := by
        have := HQ.out.rep #[.int .u32 raw.c, .int .u32 raw.a, .int .u32 raw.d, .int .u32 dc, .int .u32 da, .int .u32 dd, .int .u32 sha.c, .int .u32 sha.a, .int .u32 sha.d, .bool false, .bool false, .bool false, .bool false]
        rw [hu7, put_put] at this
        exact this
      clear HQ
      subst hu7
      go_wp2_with fail
      refine ⟨fun _ => HQ9.out.hp, ?_⟩
      refine wpAnyJ_end _ _ _ _ (by kernel_rfl) ?_
      exact HKR.out _ _ (by kernel_rfl) HQ9.out
    · refine wpOp_list _ rfl ?_
      have HO : Hid (Calls Try.prog 64 #[.agg #[.pointer (some ⟨bb, 0, none⟩), .int .i64 40, .int .i64 3], .int .i64 1] v0 fun e w' => e = .returned (.int .u32 (B2.get 44)) ∧ Below v0.heap.size v0 w') := oldest_any bb cb 40 3 1 (by decide) (by decide) (by decide) fv B2 v0 HQ.out.br
      rw [HD1.out] at HO
      go_wp2_with fail
      refine HO.out.mono ?_
      rintro e v1 ⟨rfl, hb⟩
      have HQ : Hid (PR w v1 pb bb cb ub mb fv (.slice pa pn pc) lv gv lv gv prog last w.heap.size (w.heap.size + 1) (w.heap.size + 1 + 1) #[.int .u32 0, .int .u32 0, .int .u32 0, .int .u32 0, .int .u32 0, .int .u32 0, .int .u32 0, .int .u32 0, .int .u32 0, .bool false, .bool false, .bool false, .bool false] #[.int .u32 raw.c, .int .u32 raw.a, .int .u32 raw.d, .int .u32 0, .int .u32 0, .int .u32 0, .int .u32 sha.c, .int .u32 sha.a, .int .u32 sha.d, .bool false, .bool false, .bool false, .bool false] #[.bool iv, .bool ie, .int .u32 id] B2 U1) := HQ.out.below hb
      clear HO hb
      go_wp2_with fail
      refine ⟨fun _ => HQ.out.hp, ?_⟩
      refine wpAnyJ_stepJ _ _ _ _ [5, 15] (by kernel_rfl) rfl (by kernel_rfl) ?_
      intro i hi
      simp only [List.mem_cons, List.not_mem_nil, or_false] at hi
      rcases hi with rfl | rfl
      · refine wpOp_list _ rfl ?_
        go_wp2_with fail
        refine ⟨fun _ => HQ.out.hp, ?_⟩
        refine wpAnyJ_stepJ _ _ _ _ [15] (by kernel_rfl) rfl (by kernel_rfl) ?_
        intro i hi
        obtain rfl : i = 15 := by simpa using hi
        refine wpOp_list _ rfl ?_
        have HO : Hid (Calls Try.prog 64 #[.agg #[.pointer (some ⟨bb, 0, none⟩), .int .i64 40, .int .i64 3], .int .i64 2] v1 fun e w' => e = .returned (.int .u32 (B2.get 45)) ∧ Below v1.heap.size v1 w') := oldest_any bb cb 40 3 2 (by decide) (by decide) (by decide) fv B2 v1 HQ.out.br
        rw [HD2.out] at HO
        go_wp2_with fail
        refine HO.out.mono ?_
        rintro e v2 ⟨rfl, hb⟩
        have HQ : Hid (PR w v2 pb bb cb ub mb fv (.slice pa pn pc) lv gv lv gv prog last w.heap.size (w.heap.size + 1) (w.heap.size + 1 + 1) #[.int .u32 0, .int .u32 0, .int .u32 0, .int .u32 0, .int .u32 0, .int .u32 0, .int .u32 0, .int .u32 0, .int .u32 0, .bool false, .bool false, .bool false, .bool false] #[.int .u32 raw.c, .int .u32 raw.a, .int .u32 raw.d, .int .u32 0, .int .u32 0, .int .u32 0, .int .u32 sha.c, .int .u32 sha.a, .int .u32 sha.d, .bool false, .bool false, .bool false, .bool false] #[.bool iv, .bool ie, .int .u32 id] B2 U1) := HQ.out.below hb
        clear HO hb
        go_wp2_with fail
        refine ⟨fun _ => HQ.out.hp, ?_⟩
        refine wpAnyJ_stepJ _ _ _ _ [16] (by kernel_rfl) rfl (by kernel_rfl) ?_
        intro i hi
        obtain rfl : i = 16 := by simpa using hi
        refine wpOp_list _ rfl ?_
        go_wp2_with fail
        refine ⟨fun _ => HQ.out.hp, ?_⟩
        refine wpAnyJ_stepJ _ _ _ _ [17] (by kernel_rfl) rfl (by kernel_rfl) ?_
        intro i hi
        obtain rfl : i = 17 := by simpa using hi
        refine wpOp_list _ rfl ?_
        go_wp2_with fail
        refine ⟨fun _ => HQ.out.hp, ?_⟩
        refine wpAnyJ_stepJ _ _ _ _ [18] (by kernel_rfl) rfl (by kernel_rfl) ?_
        intro i hi
        obtain rfl : i = 18 := by simpa using hi
        refine wpOp_list _ rfl ?_
        obtain ⟨u7, hu7, hl7⟩ := HQ.out.ht.out
        have HQ9 : Hid (PR w (put u7 (w.heap.size + 1) #[.int .u32 raw.c, .int .u32 raw.a, .int .u32 raw.d, .int .u32 dc, .int .u32 da, .int .u32 dd, .int .u32 sha.c, .int .u32 sha.a, .int .u32 sha.d, .bool false, .bool false, .bool false, .bool false] 51) pb bb cb ub mb fv (.slice pa pn pc) lv gv lv gv prog last w.heap.size (w.heap.size + 1) (w.heap.size + 1 + 1) #[.int .u32 0, .int .u32 0, .int .u32 0, .int .u32 0, .int .u32 0, .int .u32 0, .int .u32 0, .int .u32 0, .int .u32 0, .bool false, .bool false, .bool false, .bool false] #[.int .u32 raw.c, .int .u32 raw.a, .int .u32 raw.d, .int .u32 dc, .int .u32 da, .int .u32 dd, .int .u32 sha.c, .int .u32 sha.a, .int .u32 sha.d, .bool false, .bool false, .bool false, .bool false] #[.bool iv, .bool ie, .int .u32 id] B2 U1) := by
          have := HQ.out.rep #[.int .u32 raw.c, .int .u32 raw.a, .int .u32 raw.d, .int .u32 dc, .int .u32 da, .int .u32 dd, .int .u32 sha.c, .int .u32 sha.a, .int .u32 sha.d, .bool false, .bool false, .bool false, .bool false]
          rw [hu7, put_put] at this
          exact this
        clear HQ
        subst hu7
        go_wp2_with fail
        refine ⟨fun _ => HQ9.out.hp, ?_⟩
        refine wpAnyJ_end _ _ _ _ (by kernel_rfl) ?_
        exact HKR.out _ _ (by kernel_rfl) HQ9.out
      · refine wpOp_list _ rfl ?_
        have HO : Hid (Calls Try.prog 64 #[.agg #[.pointer (some ⟨bb, 0, none⟩), .int .i64 40, .int .i64 3], .int .i64 2] v1 fun e w' => e = .returned (.int .u32 (B2.get 45)) ∧ Below v1.heap.size v1 w') := oldest_any bb cb 40 3 2 (by decide) (by decide) (by decide) fv B2 v1 HQ.out.br
        rw [HD2.out] at HO
        go_wp2_with fail
        refine HO.out.mono ?_
        rintro e v2 ⟨rfl, hb⟩
        have HQ : Hid (PR w v2 pb bb cb ub mb fv (.slice pa pn pc) lv gv lv gv prog last w.heap.size (w.heap.size + 1) (w.heap.size + 1 + 1) #[.int .u32 0, .int .u32 0, .int .u32 0, .int .u32 0, .int .u32 0, .int .u32 0, .int .u32 0, .int .u32 0, .int .u32 0, .bool false, .bool false, .bool false, .bool false] #[.int .u32 raw.c, .int .u32 raw.a, .int .u32 raw.d, .int .u32 0, .int .u32 0, .int .u32 0, .int .u32 sha.c, .int .u32 sha.a, .int .u32 sha.d, .bool false, .bool false, .bool false, .bool false] #[.bool iv, .bool ie, .int .u32 id] B2 U1) := HQ.out.below hb
        clear HO hb
        go_wp2_with fail
        refine ⟨fun _ => HQ.out.hp, ?_⟩
        refine wpAnyJ_stepJ _ _ _ _ [5] (by kernel_rfl) rfl (by kernel_rfl) ?_
        intro i hi
        obtain rfl : i = 5 := by simpa using hi
        refine wpOp_list _ rfl ?_
        go_wp2_with fail
        refine ⟨fun _ => HQ.out.hp, ?_⟩
        refine wpAnyJ_stepJ _ _ _ _ [16] (by kernel_rfl) rfl (by kernel_rfl) ?_
        intro i hi
        obtain rfl : i = 16 := by simpa using hi
        refine wpOp_list _ rfl ?_
        go_wp2_with fail
        refine ⟨fun _ => HQ.out.hp, ?_⟩
        refine wpAnyJ_stepJ _ _ _ _ [17] (by kernel_rfl) rfl (by kernel_rfl) ?_
        intro i hi
        obtain rfl : i = 17 := by simpa using hi
        refine wpOp_list _ rfl ?_
        go_wp2_with fail
        refine ⟨fun _ => HQ.out.hp, ?_⟩
        refine wpAnyJ_stepJ _ _ _ _ [18] (by kernel_rfl) rfl (by kernel_rfl) ?_
        intro i hi
        obtain rfl : i = 18 := by simpa using hi
        refine wpOp_list _ rfl ?_
        obtain ⟨u7, hu7, hl7⟩ := HQ.out.ht.out
        have HQ9 : Hid (PR w (put u7 (w.heap.size + 1) #[.int .u32 raw.c, .int .u32 raw.a, .int .u32 raw.d, .int .u32 dc, .int .u32 da, .int .u32 dd, .int .u32 sha.c, .int .u32 sha.a, .int .u32 sha.d, .bool false, .bool false, .bool false, .bool false] 51) pb bb cb ub mb fv (.slice pa pn pc) lv gv lv gv prog last w.heap.size (w.heap.size + 1) (w.heap.size + 1 + 1) #[.int .u32 0, .int .u32 0, .int .u32 0, .int .u32 0, .int .u32 0, .int .u32 0, .int .u32 0, .int .u32 0, .int .u32 0, .bool false, .bool false, .bool false, .bool false] #[.int .u32 raw.c, .int .u32 raw.a, .int .u32 raw.d, .int .u32 dc, .int .u32 da, .int .u32 dd, .int .u32 sha.c, .int .u32 sha.a, .int .u32 sha.d, .bool false, .bool false, .bool false, .bool false] #[.bool iv, .bool ie, .int .u32 id] B2 U1) := by
          have := HQ.out.rep #[.int .u32 raw.c, .int .u32 raw.a, .int .u32 raw.d, .int .u32 dc, .int .u32 da, .int .u32 dd, .int .u32 sha.c, .int .u32 sha.a, .int .u32 sha.d, .bool false, .bool false, .bool false, .bool false]
          rw [hu7, put_put] at this
          exact this
        clear HQ
        subst hu7
        go_wp2_with fail
        refine ⟨fun _ => HQ9.out.hp, ?_⟩
        refine wpAnyJ_end _ _ _ _ (by kernel_rfl) ?_
        exact HKR.out _ _ (by kernel_rfl) HQ9.out
  case rest =>
  clear HP
  rintro act wc ⟨u, rfl, HP⟩
  unfold fr50
  go_upto_region 11 with fail
  have t3 : wc.cell? ⟨w.heap.size + 1, 3, none⟩ = some (.int .u32 de.c) := HP.out.ht.cell 3
  have t4 : wc.cell? ⟨w.heap.size + 1, 4, none⟩ = some (.int .u32 de.a) := HP.out.ht.cell 4
  have t5 : wc.cell? ⟨w.heap.size + 1, 5, none⟩ = some (.int .u32 de.d) := HP.out.ht.cell 5
  have t6 : wc.cell? ⟨w.heap.size + 1, 6, none⟩ = some (.int .u32 sha.c) := HP.out.ht.cell 6
  have t7 : wc.cell? ⟨w.heap.size + 1, 7, none⟩ = some (.int .u32 sha.a) := HP.out.ht.cell 7
  have t8 : wc.cell? ⟨w.heap.size + 1, 8, none⟩ = some (.int .u32 sha.d) := HP.out.ht.cell 8
  have HC : Hid (Calls Try.prog 65 #[.pointer (some ⟨pb, 0, none⟩), .int .i64 46, .agg #[.int .u32 de.c, .int .u32 de.a, .int .u32 de.d], .agg #[.int .u32 sha.c, .int .u32 sha.a, .int .u32 sha.d]] wc fun e w' => e = .returned (.bool fa) ∧ Below wc.heap.size wc w') := by
    rw [← HFA.out]
    exact compare_any pb bb cb 46 (by decide) fv B2 de sha wc HP.out.br (HP.out.hp.cell 0)
  refine wp_region_list ?_
  go_wp2_with fail
  refine HC.out.mono ?_
  rintro e w2 ⟨rfl, hb2⟩
  have HP2 : Hid (PR w w2 pb bb cb ub mb fv (.slice pa pn pc) lv gv lv gv prog last w.heap.size (w.heap.size + 1) (w.heap.size + 1 + 1) #[.int .u32 0, .int .u32 0, .int .u32 0, .int .u32 0, .int .u32 0, .int .u32 0, .int .u32 0, .int .u32 0, .int .u32 0, .bool false, .bool false, .bool false, .bool false] #[.int .u32 raw.c, .int .u32 raw.a, .int .u32 raw.d, .int .u32 de.c, .int .u32 de.a, .int .u32 de.d, .int .u32 sha.c, .int .u32 sha.a, .int .u32 sha.d, .bool false, .bool false, .bool false, .bool false] #[.bool iv, .bool ie, .int .u32 id] B2 U1) := HP.out.below hb2
  clear HC HP hb2 t3 t4 t5 t6 t7 t8
  obtain ⟨u2, hu2, hl2⟩ := HP2.out.ht.out
  have HP3 : Hid (PR w (put u2 (w.heap.size + 1) #[.int .u32 raw.c, .int .u32 raw.a, .int .u32 raw.d, .int .u32 de.c, .int .u32 de.a, .int .u32 de.d, .int .u32 sha.c, .int .u32 sha.a, .int .u32 sha.d, .bool fa, .bool false, .bool false, .bool false] 51) pb bb cb ub mb fv (.slice pa pn pc) lv gv lv gv prog last w.heap.size (w.heap.size + 1) (w.heap.size + 1 + 1) #[.int .u32 0, .int .u32 0, .int .u32 0, .int .u32 0, .int .u32 0, .int .u32 0, .int .u32 0, .int .u32 0, .int .u32 0, .bool false, .bool false, .bool false, .bool false] #[.int .u32 raw.c, .int .u32 raw.a, .int .u32 raw.d, .int .u32 de.c, .int .u32 de.a, .int .u32 de.d, .int .u32 sha.c, .int .u32 sha.a, .int .u32 sha.d, .bool fa, .bool false, .bool false, .bool false] #[.bool iv, .bool ie, .int .u32 id] B2 U1) := by
    have := HP2.out.rep #[.int .u32 raw.c, .int .u32 raw.a, .int .u32 raw.d, .int .u32 de.c, .int .u32 de.a, .int .u32 de.d, .int .u32 sha.c, .int .u32 sha.a, .int .u32 sha.d, .bool fa, .bool false, .bool false, .bool false]
    rw [hu2, put_put] at this
    exact this
  clear HP2
  subst hu2
  go_upto_region 12 with fail
  obtain ⟨wd, hwd⟩ : ∃ wd, put u2 (w.heap.size + 1) #[.int .u32 raw.c, .int .u32 raw.a, .int .u32 raw.d, .int .u32 de.c, .int .u32 de.a, .int .u32 de.d, .int .u32 sha.c, .int .u32 sha.a, .int .u32 sha.d, .bool fa, .bool false, .bool false, .bool false] 51 = wd := ⟨_, rfl⟩
  rw [hwd] at HP3 ⊢
  clear hwd hl2 wc
  have HP := HP3
  clear HP3
  obtain ⟨wc, hwc⟩ : ∃ wc, wd = wc := ⟨_, rfl⟩
  rw [hwc] at HP ⊢
  clear hwc wd
  go_upto_region 12 with fail
  have t3 : wc.cell? ⟨w.heap.size + 1, 3, none⟩ = some (.int .u32 de.c) := HP.out.ht.cell 3
  have t4 : wc.cell? ⟨w.heap.size + 1, 4, none⟩ = some (.int .u32 de.a) := HP.out.ht.cell 4
  have t5 : wc.cell? ⟨w.heap.size + 1, 5, none⟩ = some (.int .u32 de.d) := HP.out.ht.cell 5
  have t6 : wc.cell? ⟨w.heap.size + 1, 6, none⟩ = some (.int .u32 sha.c) := HP.out.ht.cell 6
  have t7 : wc.cell? ⟨w.heap.size + 1, 7, none⟩ = some (.int .u32 sha.a) := HP.out.ht.cell 7
  have t8 : wc.cell? ⟨w.heap.size + 1, 8, none⟩ = some (.int .u32 sha.d) := HP.out.ht.cell 8
  have HC : Hid (Calls Try.prog 65 #[.pointer (some ⟨pb, 0, none⟩), .int .i64 47, .agg #[.int .u32 de.c, .int .u32 de.a, .int .u32 de.d], .agg #[.int .u32 sha.c, .int .u32 sha.a, .int .u32 sha.d]] wc fun e w' => e = .returned (.bool fb) ∧ Below wc.heap.size wc w') := by
    rw [← HFB.out]
    exact compare_any pb bb cb 47 (by decide) fv B2 de sha wc HP.out.br (HP.out.hp.cell 0)
  refine wp_region_list ?_
  go_wp2_with fail
  refine HC.out.mono ?_
  rintro e w2 ⟨rfl, hb2⟩
  have HP2 : Hid (PR w w2 pb bb cb ub mb fv (.slice pa pn pc) lv gv lv gv prog last w.heap.size (w.heap.size + 1) (w.heap.size + 1 + 1) #[.int .u32 0, .int .u32 0, .int .u32 0, .int .u32 0, .int .u32 0, .int .u32 0, .int .u32 0, .int .u32 0, .int .u32 0, .bool false, .bool false, .bool false, .bool false] #[.int .u32 raw.c, .int .u32 raw.a, .int .u32 raw.d, .int .u32 de.c, .int .u32 de.a, .int .u32 de.d, .int .u32 sha.c, .int .u32 sha.a, .int .u32 sha.d, .bool fa, .bool false, .bool false, .bool false] #[.bool iv, .bool ie, .int .u32 id] B2 U1) := HP.out.below hb2
  clear HC HP hb2 t3 t4 t5 t6 t7 t8
  obtain ⟨u2, hu2, hl2⟩ := HP2.out.ht.out
  have HP3 : Hid (PR w (put u2 (w.heap.size + 1) #[.int .u32 raw.c, .int .u32 raw.a, .int .u32 raw.d, .int .u32 de.c, .int .u32 de.a, .int .u32 de.d, .int .u32 sha.c, .int .u32 sha.a, .int .u32 sha.d, .bool fa, .bool fb, .bool false, .bool false] 51) pb bb cb ub mb fv (.slice pa pn pc) lv gv lv gv prog last w.heap.size (w.heap.size + 1) (w.heap.size + 1 + 1) #[.int .u32 0, .int .u32 0, .int .u32 0, .int .u32 0, .int .u32 0, .int .u32 0, .int .u32 0, .int .u32 0, .int .u32 0, .bool false, .bool false, .bool false, .bool false] #[.int .u32 raw.c, .int .u32 raw.a, .int .u32 raw.d, .int .u32 de.c, .int .u32 de.a, .int .u32 de.d, .int .u32 sha.c, .int .u32 sha.a, .int .u32 sha.d, .bool fa, .bool fb, .bool false, .bool false] #[.bool iv, .bool ie, .int .u32 id] B2 U1) := by
    have := HP2.out.rep #[.int .u32 raw.c, .int .u32 raw.a, .int .u32 raw.d, .int .u32 de.c, .int .u32 de.a, .int .u32 de.d, .int .u32 sha.c, .int .u32 sha.a, .int .u32 sha.d, .bool fa, .bool fb, .bool false, .bool false]
    rw [hu2, put_put] at this
    exact this
  clear HP2
  subst hu2
  go_upto_region 13 with fail
  obtain ⟨wd, hwd⟩ : ∃ wd, put u2 (w.heap.size + 1) #[.int .u32 raw.c, .int .u32 raw.a, .int .u32 raw.d, .int .u32 de.c, .int .u32 de.a, .int .u32 de.d, .int .u32 sha.c, .int .u32 sha.a, .int .u32 sha.d, .bool fa, .bool fb, .bool false, .bool false] 51 = wd := ⟨_, rfl⟩
  rw [hwd] at HP3 ⊢
  clear hwd hl2 wc
  have HP := HP3
  clear HP3
  obtain ⟨wc, hwc⟩ : ∃ wc, wd = wc := ⟨_, rfl⟩
  rw [hwc] at HP ⊢
  clear hwc wd
  refine cutM (Km := fun act wc => ∃ u, act = fr50 pb w.heap.size u ∧ Hid (PR w wc pb bb cb ub mb fv (.slice pa pn pc) lv gv lv gv prog last w.heap.size (w.heap.size + 1) (w.heap.size + 1 + 1) #[.int .u32 0, .int .u32 0, .int .u32 0, .int .u32 0, .int .u32 0, .int .u32 0, .int .u32 0, .int .u32 0, .int .u32 0, .bool false, .bool false, .bool false, .bool false] #[.int .u32 raw.c, .int .u32 raw.a, .int .u32 raw.d, .int .u32 de.c, .int .u32 de.a, .int .u32 de.d, .int .u32 sha.c, .int .u32 sha.a, .int .u32 sha.d, .bool fa, .bool fb, .bool al, .bool false] #[.bool iv, .bool ie, .int .u32 id] B2 U1)) ?rest ?first
  case first =>
    obtain ⟨KR, hKR⟩ : ∃ KR : Act → World → Prop, KR = fun act wc => ∃ u, act = fr50 pb w.heap.size u ∧ Hid (PR w wc pb bb cb ub mb fv (.slice pa pn pc) lv gv lv gv prog last w.heap.size (w.heap.size + 1) (w.heap.size + 1 + 1) #[.int .u32 0, .int .u32 0, .int .u32 0, .int .u32 0, .int .u32 0, .int .u32 0, .int .u32 0, .int .u32 0, .int .u32 0, .bool false, .bool false, .bool false, .bool false] #[.int .u32 raw.c, .int .u32 raw.a, .int .u32 raw.d, .int .u32 de.c, .int .u32 de.a, .int .u32 de.d, .int .u32 sha.c, .int .u32 sha.a, .int .u32 sha.d, .bool fa, .bool fb, .bool al, .bool false] #[.bool iv, .bool ie, .int .u32 id] B2 U1) := ⟨_, rfl⟩
    have HKR : Hid (∀ (act : Act) (wc : World), act = fr50 pb w.heap.size (fun i => act.tmps.getD i undef) → PR w wc pb bb cb ub mb fv (.slice pa pn pc) lv gv lv gv prog last w.heap.size (w.heap.size + 1) (w.heap.size + 1 + 1) #[.int .u32 0, .int .u32 0, .int .u32 0, .int .u32 0, .int .u32 0, .int .u32 0, .int .u32 0, .int .u32 0, .int .u32 0, .bool false, .bool false, .bool false, .bool false] #[.int .u32 raw.c, .int .u32 raw.a, .int .u32 raw.d, .int .u32 de.c, .int .u32 de.a, .int .u32 de.d, .int .u32 sha.c, .int .u32 sha.a, .int .u32 sha.d, .bool fa, .bool fb, .bool al, .bool false] #[.bool iv, .bool ie, .int .u32 id] B2 U1 → KR act wc) := fun act wc e h => by rw [hKR]; exact ⟨_, e, h⟩
    rw [← hKR]
    clear hKR
    cases fa
    · cases fb
      · have hal : al = (andB (B2.get 48) 1 == 1) := by rw [HAL.out]; rfl
        obtain ⟨lt, hlt⟩ : ∃ lt, B2.get 48 = lt := ⟨_, rfl⟩
        have HG := hid_of (get_any bb cb 48 (by decide) fv B2 wc HP.out.br)
        rw [hlt] at HG hal
        unfold andB at hal
        have c0 : wc.cell? ⟨pb, 0, none⟩ = some (.pointer (some ⟨bb, 0, none⟩)) := HP.out.hp.cell 0
        have t9 : wc.cell? ⟨w.heap.size + 1, 9, none⟩ = some (.bool false) := HP.out.ht.cell 9
        have t10 : wc.cell? ⟨w.heap.size + 1, 10, none⟩ = some (.bool false) := HP.out.ht.cell 10
        have HAL2 := hid_of hal
        clear hlt hal
        refine wp_region_list ?_
        go_wp2_with fail
        refine HG.out.mono ?_
        rintro e w2 ⟨rfl, hb2⟩
        have HP2 : Hid (PR w w2 pb bb cb ub mb fv (.slice pa pn pc) lv gv lv gv prog last w.heap.size (w.heap.size + 1) (w.heap.size + 1 + 1) #[.int .u32 0, .int .u32 0, .int .u32 0, .int .u32 0, .int .u32 0, .int .u32 0, .int .u32 0, .int .u32 0, .int .u32 0, .bool false, .bool false, .bool false, .bool false] #[.int .u32 raw.c, .int .u32 raw.a, .int .u32 raw.d, .int .u32 de.c, .int .u32 de.a, .int .u32 de.d, .int .u32 sha.c, .int .u32 sha.a, .int .u32 sha.d, .bool false, .bool false, .bool false, .bool false] #[.bool iv, .bool ie, .int .u32 id] B2 U1) := HP.out.below hb2
        clear HG HP hb2 c0 t9 t10
        have HP := HP2
        clear HP2
        have hal := HAL2.out.symm
        clear HAL2
        obtain ⟨u2, hu2, hl2⟩ := HP.out.ht.out
        have HP3 : Hid (PR w (put u2 (w.heap.size + 1) #[.int .u32 raw.c, .int .u32 raw.a, .int .u32 raw.d, .int .u32 de.c, .int .u32 de.a, .int .u32 de.d, .int .u32 sha.c, .int .u32 sha.a, .int .u32 sha.d, .bool false, .bool false, .bool al, .bool false] 51) pb bb cb ub mb fv (.slice pa pn pc) lv gv lv gv prog last w.heap.size (w.heap.size + 1) (w.heap.size + 1 + 1) #[.int .u32 0, .int .u32 0, .int .u32 0, .int .u32 0, .int .u32 0, .int .u32 0, .int .u32 0, .int .u32 0, .int .u32 0, .bool false, .bool false, .bool false, .bool false] #[.int .u32 raw.c, .int .u32 raw.a, .int .u32 raw.d, .int .u32 de.c, .int .u32 de.a, .int .u32 de.d, .int .u32 sha.c, .int .u32 sha.a, .int .u32 sha.d, .bool false, .bool false, .bool al, .bool false] #[.bool iv, .bool ie, .int .u32 id] B2 U1) := by
          have := HP.out.rep #[.int .u32 raw.c, .int .u32 raw.a, .int .u32 raw.d, .int .u32 de.c, .int .u32 de.a, .int .u32 de.d, .int .u32 sha.c, .int .u32 sha.a, .int .u32 sha.d, .bool false, .bool false, .bool al, .bool false]
          rw [hu2, put_put] at this
          exact this
        clear HP
        subst hu2
        go_wp2_with fail
        exact HKR.out _ _ (by kernel_rfl) HP3.out
      · have hal : al = true := by rw [HAL.out]; rfl
        subst hal
        have t9 : wc.cell? ⟨w.heap.size + 1, 9, none⟩ = some (.bool false) := HP.out.ht.cell 9
        have t10 : wc.cell? ⟨w.heap.size + 1, 10, none⟩ = some (.bool true) := HP.out.ht.cell 10
        obtain ⟨u2, hu2, hl2⟩ := HP.out.ht.out
        have HP3 : Hid (PR w (put u2 (w.heap.size + 1) #[.int .u32 raw.c, .int .u32 raw.a, .int .u32 raw.d, .int .u32 de.c, .int .u32 de.a, .int .u32 de.d, .int .u32 sha.c, .int .u32 sha.a, .int .u32 sha.d, .bool false, .bool true, .bool true, .bool false] 51) pb bb cb ub mb fv (.slice pa pn pc) lv gv lv gv prog last w.heap.size (w.heap.size + 1) (w.heap.size + 1 + 1) #[.int .u32 0, .int .u32 0, .int .u32 0, .int .u32 0, .int .u32 0, .int .u32 0, .int .u32 0, .int .u32 0, .int .u32 0, .bool false, .bool false, .bool false, .bool false] #[.int .u32 raw.c, .int .u32 raw.a, .int .u32 raw.d, .int .u32 de.c, .int .u32 de.a, .int .u32 de.d, .int .u32 sha.c, .int .u32 sha.a, .int .u32 sha.d, .bool false, .bool true, .bool true, .bool false] #[.bool iv, .bool ie, .int .u32 id] B2 U1) := by
          have := HP.out.rep #[.int .u32 raw.c, .int .u32 raw.a, .int .u32 raw.d, .int .u32 de.c, .int .u32 de.a, .int .u32 de.d, .int .u32 sha.c, .int .u32 sha.a, .int .u32 sha.d, .bool false, .bool true, .bool true, .bool false]
          rw [hu2, put_put] at this
          exact this
        rw [hu2] at t9 t10
        clear HP
        subst hu2
        go_wp2_with fail
        exact HKR.out _ _ (by kernel_rfl) HP3.out
    · have hal : al = true := by rw [HAL.out]; rfl
      subst hal
      have t9 : wc.cell? ⟨w.heap.size + 1, 9, none⟩ = some (.bool true) := HP.out.ht.cell 9
      obtain ⟨u2, hu2, hl2⟩ := HP.out.ht.out
      have HP3 : Hid (PR w (put u2 (w.heap.size + 1) #[.int .u32 raw.c, .int .u32 raw.a, .int .u32 raw.d, .int .u32 de.c, .int .u32 de.a, .int .u32 de.d, .int .u32 sha.c, .int .u32 sha.a, .int .u32 sha.d, .bool true, .bool fb, .bool true, .bool false] 51) pb bb cb ub mb fv (.slice pa pn pc) lv gv lv gv prog last w.heap.size (w.heap.size + 1) (w.heap.size + 1 + 1) #[.int .u32 0, .int .u32 0, .int .u32 0, .int .u32 0, .int .u32 0, .int .u32 0, .int .u32 0, .int .u32 0, .int .u32 0, .bool false, .bool false, .bool false, .bool false] #[.int .u32 raw.c, .int .u32 raw.a, .int .u32 raw.d, .int .u32 de.c, .int .u32 de.a, .int .u32 de.d, .int .u32 sha.c, .int .u32 sha.a, .int .u32 sha.d, .bool true, .bool fb, .bool true, .bool false] #[.bool iv, .bool ie, .int .u32 id] B2 U1) := by
        have := HP.out.rep #[.int .u32 raw.c, .int .u32 raw.a, .int .u32 raw.d, .int .u32 de.c, .int .u32 de.a, .int .u32 de.d, .int .u32 sha.c, .int .u32 sha.a, .int .u32 sha.d, .bool true, .bool fb, .bool true, .bool false]
        rw [hu2, put_put] at this
        exact this
      rw [hu2] at t9
      clear HP
      subst hu2
      go_wp2_with fail
      exact HKR.out _ _ (by kernel_rfl) HP3.out
  case rest =>
  clear HP
  rintro act wc ⟨u, rfl, HP⟩
  unfold fr50
  go_upto_region 14 with fail
  refine cutM (Km := fun act wd => ∃ u, act = fr50g pb w.heap.size gg u ∧ wd = wc) ?rest ?first
  case first =>
    obtain ⟨KR, hKR⟩ : ∃ KR : Act → World → Prop, KR = fun act wd => ∃ u, act = fr50g pb w.heap.size gg u ∧ wd = wc := ⟨_, rfl⟩
    have HKR : Hid (∀ (act : Act), act = fr50g pb w.heap.size gg (fun i => act.tmps.getD i undef) → KR act wc) := fun act e => by rw [hKR]; exact ⟨_, e, rfl⟩
    rw [← hKR]
    clear hKR
    have t3 : wc.cell? ⟨w.heap.size + 1, 3, none⟩ = some (.int .u32 de.c) := HP.out.ht.cell 3
    have t11 : wc.cell? ⟨w.heap.size + 1, 11, none⟩ = some (.bool al) := HP.out.ht.cell 11
    have hgg := HGG.out
    unfold andB at hgg
    cases hv : (bits BinOp.and IntKind.u32 de.c 1 != 0)
    · rw [hv] at hgg
      have h2 : gg = false := hgg
      clear hgg
      subst h2
      clear HP
      go_wp2_with fail
      exact HKR.out _ (by kernel_rfl)
    · rw [hv] at hgg
      cases al
      · have h2 : gg = true := hgg
        clear hgg
        subst h2
        clear HP
        go_wp2_with fail
        exact HKR.out _ (by kernel_rfl)
      · have h2 : gg = false := hgg
        clear hgg
        subst h2
        clear HP
        go_wp2_with fail
        exact HKR.out _ (by kernel_rfl)
  case rest =>
  rintro act wd ⟨u, rfl, hwd⟩
  obtain rfl := hwd.symm
  clear hwd
  unfold fr50g
  go_upto_if 113 with fail
  refine cutM (Km := fun act wd => ∃ u lv' gv', act = fr50 pb w.heap.size u ∧ Hid (PR w wd pb bb cb ub mb fv (.slice pa pn pc) lv gv lv' gv' prog last w.heap.size (w.heap.size + 1) (w.heap.size + 1 + 1) #[.int .u32 0, .int .u32 0, .int .u32 0, .int .u32 0, .int .u32 0, .int .u32 0, .int .u32 0, .int .u32 0, .int .u32 0, .bool false, .bool false, .bool false, .bool false] #[.int .u32 raw.c, .int .u32 raw.a, .int .u32 raw.d, .int .u32 de.c, .int .u32 de.a, .int .u32 de.d, .int .u32 sha.c, .int .u32 sha.a, .int .u32 sha.d, .bool fa, .bool fb, .bool al, .bool gr] #[.bool iv, .bool ie, .int .u32 id] B2 U2)) ?rest ?first
  case first =>
    obtain ⟨KR, hKR⟩ : ∃ KR : Act → World → Prop, KR = fun act wd => ∃ u lv' gv', act = fr50 pb w.heap.size u ∧ Hid (PR w wd pb bb cb ub mb fv (.slice pa pn pc) lv gv lv' gv' prog last w.heap.size (w.heap.size + 1) (w.heap.size + 1 + 1) #[.int .u32 0, .int .u32 0, .int .u32 0, .int .u32 0, .int .u32 0, .int .u32 0, .int .u32 0, .int .u32 0, .int .u32 0, .bool false, .bool false, .bool false, .bool false] #[.int .u32 raw.c, .int .u32 raw.a, .int .u32 raw.d, .int .u32 de.c, .int .u32 de.a, .int .u32 de.d, .int .u32 sha.c, .int .u32 sha.a, .int .u32 sha.d, .bool fa, .bool fb, .bool al, .bool gr] #[.bool iv, .bool ie, .int .u32 id] B2 U2) := ⟨_, rfl⟩
    have HKR : Hid (∀ (act : Act) (wd : World) (lv' gv' : Value), act = fr50 pb w.heap.size (fun i => act.tmps.getD i undef) → PR w wd pb bb cb ub mb fv (.slice pa pn pc) lv gv lv' gv' prog last w.heap.size (w.heap.size + 1) (w.heap.size + 1 + 1) #[.int .u32 0, .int .u32 0, .int .u32 0, .int .u32 0, .int .u32 0, .int .u32 0, .int .u32 0, .int .u32 0, .int .u32 0, .bool false, .bool false, .bool false, .bool false] #[.int .u32 raw.c, .int .u32 raw.a, .int .u32 raw.d, .int .u32 de.c, .int .u32 de.a, .int .u32 de.d, .int .u32 sha.c, .int .u32 sha.a, .int .u32 sha.d, .bool fa, .bool fb, .bool al, .bool gr] #[.bool iv, .bool ie, .int .u32 id] B2 U2 → KR act wd) := fun act wd lv' gv' e h => by rw [hKR]; exact ⟨_, lv', gv', e, h⟩
    rw [← hKR]
    clear hKR
    cases gg
    · have HX : Hid (PR w wc pb bb cb ub mb fv (.slice pa pn pc) lv gv lv gv prog last w.heap.size (w.heap.size + 1) (w.heap.size + 1 + 1) #[.int .u32 0, .int .u32 0, .int .u32 0, .int .u32 0, .int .u32 0, .int .u32 0, .int .u32 0, .int .u32 0, .int .u32 0, .bool false, .bool false, .bool false, .bool false] #[.int .u32 raw.c, .int .u32 raw.a, .int .u32 raw.d, .int .u32 de.c, .int .u32 de.a, .int .u32 de.d, .int .u32 sha.c, .int .u32 sha.a, .int .u32 sha.d, .bool fa, .bool fb, .bool al, .bool gr] #[.bool iv, .bool ie, .int .u32 id] B2 U2) := by
        have e1 := HU2.out
        have e2 := HGR.out
        rw [if_neg (by decide)] at e1
        rw [← e1, ← e2]
        exact HP.out
      clear HP
      go_wp2_with fail
      exact HKR.out _ _ _ _ (by kernel_rfl) HX.out
    · have hgr : (!U1.busy) = gr := HGR.out
      have HGR2 := hid_of hgr
      have HE2 : Hid (issF U1 (andB de.c 2 != 0) de.a de.d = U2) := by
        have e1 := HU2.out
        rw [if_pos rfl] at e1
        exact e1
      clear hgr
      go_upto_region 15 with fail
      have HIS : Hid (Calls Try.prog 66 #[.pointer (some ⟨ub, 0, none⟩), .agg #[.bool (bits BinOp.and IntKind.u32 de.c 2 != 0), .int .u32 de.a, .int .u32 de.d]] wc.drew fun e w' => e = .returned (.bool gr) ∧ BusPost wc.drew ub mb lv gv U2 w') := by
        have := issue_any ub mb lv gv U1 (HOK.out.1.ok HN.out.1) (andB de.c 2 != 0) de.a de.d HOK.out.2.2.2.2.2.2.1.2.1 wc.drew HP.out.drew.u
        rw [HGR2.out, HE2.out] at this
        exact this
      obtain ⟨rw', hrw⟩ : ∃ rw', (bits BinOp.and IntKind.u32 de.c 2 != 0) = rw' := ⟨_, rfl⟩
      rw [hrw] at HIS
      refine wp_region_float [0, 1, 2, 3, 4, 5, 6, 7, 8, 9, 10, 11, 12, 13, 14, 15] [16, 17, 18] [0, 1, 2, 4, 5, 7, 8, 9, 10, 12, 13, 15] mixed (fun ω => ω.cell? ⟨pb, 13, none⟩ = some (.pointer (some ⟨ub, 0, none⟩)) ∧ Blk ω (w.heap.size + 1) #[.int .u32 raw.c, .int .u32 raw.a, .int .u32 raw.d, .int .u32 de.c, .int .u32 de.a, .int .u32 de.d, .int .u32 sha.c, .int .u32 sha.a, .int .u32 sha.d, .bool fa, .bool fb, .bool al, .bool false] 51) (by kernel_rfl) rfl (by kernel_rfl) ⟨HP.out.drew.hp.cell 13, HP.out.drew.ht⟩ ?_
      iterate 16 refine wpFl_op _ _ _ _ rfl rfl (fun ω hj => by
        first
        | (go_simp; rfl)
        | (have j13 := (hj rfl).1
           have q3 : ω.cell? ⟨w.heap.size + 1, 3, none⟩ = some (.int .u32 de.c) := (hj rfl).2.cell 3
           have q4 : ω.cell? ⟨w.heap.size + 1, 4, none⟩ = some (.int .u32 de.a) := (hj rfl).2.cell 4
           have q5 : ω.cell? ⟨w.heap.size + 1, 5, none⟩ = some (.int .u32 de.d) := (hj rfl).2.cell 5
           go_simp; rfl)) ?_
      refine wpFl_nil _ _ ?_
      simp only [Act.put, List.setIfInBounds_toArray]
      refine wpCh_rest _ _ _ _ [_, _, _] _ _ rfl (by kernel_rfl) ?_
      simp only [List.getElem_toArray, List.getElem_cons_succ, List.getElem_cons_zero]
      go_wp2_with fail
      refine HIS.out.mono ?_
      rintro e w2 ⟨rfl, lv2, gv2, hu2, f2, ho2, hg2⟩
      have HP2 : Hid (PR w w2 pb bb cb ub mb fv (.slice pa pn pc) lv gv lv2 gv2 prog last w.heap.size (w.heap.size + 1) (w.heap.size + 1 + 1) #[.int .u32 0, .int .u32 0, .int .u32 0, .int .u32 0, .int .u32 0, .int .u32 0, .int .u32 0, .int .u32 0, .int .u32 0, .bool false, .bool false, .bool false, .bool false] #[.int .u32 raw.c, .int .u32 raw.a, .int .u32 raw.d, .int .u32 de.c, .int .u32 de.a, .int .u32 de.d, .int .u32 sha.c, .int .u32 sha.a, .int .u32 sha.d, .bool fa, .bool fb, .bool al, .bool false] #[.bool iv, .bool ie, .int .u32 id] B2 U2) := HP.out.drew.iss hu2 f2 ho2 hg2
      clear HIS HP hu2 f2 ho2 hg2
      obtain ⟨u2, hu2, hl2⟩ := HP2.out.ht.out
      have HP3 : Hid (PR w (put u2 (w.heap.size + 1) #[.int .u32 raw.c, .int .u32 raw.a, .int .u32 raw.d, .int .u32 de.c, .int .u32 de.a, .int .u32 de.d, .int .u32 sha.c, .int .u32 sha.a, .int .u32 sha.d, .bool fa, .bool fb, .bool al, .bool gr] 51) pb bb cb ub mb fv (.slice pa pn pc) lv gv lv2 gv2 prog last w.heap.size (w.heap.size + 1) (w.heap.size + 1 + 1) #[.int .u32 0, .int .u32 0, .int .u32 0, .int .u32 0, .int .u32 0, .int .u32 0, .int .u32 0, .int .u32 0, .int .u32 0, .bool false, .bool false, .bool false, .bool false] #[.int .u32 raw.c, .int .u32 raw.a, .int .u32 raw.d, .int .u32 de.c, .int .u32 de.a, .int .u32 de.d, .int .u32 sha.c, .int .u32 sha.a, .int .u32 sha.d, .bool fa, .bool fb, .bool al, .bool gr] #[.bool iv, .bool ie, .int .u32 id] B2 U2) := by
        have := HP2.out.rep #[.int .u32 raw.c, .int .u32 raw.a, .int .u32 raw.d, .int .u32 de.c, .int .u32 de.a, .int .u32 de.d, .int .u32 sha.c, .int .u32 sha.a, .int .u32 sha.d, .bool fa, .bool fb, .bool al, .bool gr]
        rw [hu2, put_put] at this
        exact this
      clear HP2
      subst hu2
      go_wp2_with fail
      exact HKR.out _ _ _ _ (by kernel_rfl) HP3.out
  case rest =>
  clear HP wc
  rintro act wc ⟨u, lv', gv', rfl, HP⟩
  unfold fr50
  obtain ⟨Ba, hBa⟩ : ∃ Ba, B2.set 48 (flagI al) = Ba := ⟨_, rfl⟩
  obtain ⟨Bb, hBb⟩ : ∃ Bb, shiO Ba raw.c raw.a raw.d = Bb := ⟨_, rfl⟩
  obtain ⟨Bc, hBc⟩ : ∃ Bc, shiI Bb (inFl ⟨iv, ie, id⟩) id = Bc := ⟨_, rfl⟩
  have HE : Hid (nextB Bc = B3) := by unfold Hid; rw [← HB3.out, ← hBc, ← hBb, ← hBa]; rfl
  have HKa : Hid (Ba.fs = B2.fs ∧ Ba.now = B2.now) := by rw [← hBa]; exact ⟨rfl, rfl⟩
  have HKb : Hid (Bb.fs = Ba.fs ∧ Bb.now = Ba.now) := by rw [← hBb]; exact ⟨rfl, rfl⟩
  have HKc : Hid (Bc.fs = Bb.fs ∧ Bc.now = Bb.now) := by rw [← hBc]; exact ⟨rfl, rfl⟩
  have HBa := hid_of hBa
  have HBb := hid_of hBb
  have HBc := hid_of hBc
  clear hBa hBb hBc
  go_upto_region 16 with fail
  obtain ⟨fg, hfg⟩ : ∃ fg, flagI al = fg := ⟨_, rfl⟩
  have HFG : Hid (Calls Try.prog 68 #[.bool al] wc.drew fun e w' => e = .returned (.int .u32 fg) ∧ w' = wc.drew) := by rw [← hfg]; exact flag_any al wc.drew
  have HST : Hid (Calls Try.prog 67 #[.pointer (some ⟨bb, 0, none⟩), .int .i64 48, .int .u32 fg] wc.drew fun e w' => e = .returned (.tuple #[]) ∧ Tn wc.drew w' cb Ba.c) := by
    have h9 := bset_any bb cb 48 (by decide) fv B2 (flagI al) wc.drew HP.out.drew.br
    rw [hfg] at h9
    refine h9.mono ?_
    rintro e w' ⟨rfl, w0, hb0, rfl⟩
    refine ⟨rfl, ?_⟩
    rw [← HBa.out, hfg]
    exact Tn.of_put hb0 HP.out.drew.br.cel.lt _
  clear hfg
  refine wp_region_float [0, 1, 2, 3, 4, 5] [6, 7] [0, 1, 2, 4] mixed (fun ω => ω.cell? ⟨pb, 0, none⟩ = some (.pointer (some ⟨bb, 0, none⟩)) ∧ ω.cell? ⟨w.heap.size + 1, 11, none⟩ = some (.bool al)) (by kernel_rfl) rfl (by kernel_rfl) ⟨HP.out.drew.hp.cell 0, HP.out.drew.ht.cell 11⟩ ?_
  iterate 6 refine wpFl_op _ _ _ _ rfl rfl (fun ω hj => by
    first
    | (go_simp; rfl)
    | (have j1 := (hj rfl).1
       have j2 := (hj rfl).2
       go_simp; rfl)) ?_
  refine wpFl_nil _ _ ?_
  simp only [Act.put, List.setIfInBounds_toArray]
  refine wpCh_one _ _ _ _ rfl ?_
  go_wp2_with fail
  refine HFG.out.mono ?_
  rintro e w2 ⟨rfl, hw2⟩
  obtain rfl := hw2.symm
  clear HFG
  go_wp2_with fail
  refine ⟨⟨HP.out.drew.hp.cell 0, HP.out.drew.ht.cell 11⟩, ?_⟩
  refine wpCh_rest _ _ _ _ [_] _ _ rfl (by kernel_rfl) ?_
  simp only [List.getElem_toArray, List.getElem_cons_succ, List.getElem_cons_zero]
  go_wp2_with fail
  refine HST.out.mono ?_
  rintro e w2 ⟨rfl, ht2⟩
  have HP2 : Hid (PR w w2 pb bb cb ub mb fv (.slice pa pn pc) lv gv lv' gv' prog last w.heap.size (w.heap.size + 1) (w.heap.size + 1 + 1) #[.int .u32 0, .int .u32 0, .int .u32 0, .int .u32 0, .int .u32 0, .int .u32 0, .int .u32 0, .int .u32 0, .int .u32 0, .bool false, .bool false, .bool false, .bool false] #[.int .u32 raw.c, .int .u32 raw.a, .int .u32 raw.d, .int .u32 de.c, .int .u32 de.a, .int .u32 de.d, .int .u32 sha.c, .int .u32 sha.a, .int .u32 sha.d, .bool fa, .bool fb, .bool al, .bool gr] #[.bool iv, .bool ie, .int .u32 id] Ba U2) := HP.out.drew.core ht2 HKa.out.1 HKa.out.2
  clear HST HP ht2
  go_upto_region 17 with fail
  have HPA : Hid (PR w (w2.drew.alloc (.cells #[.int .u32 raw.c, .int .u32 raw.a, .int .u32 raw.d] 30)) pb bb cb ub mb fv (.slice pa pn pc) lv gv lv' gv' prog last w.heap.size (w.heap.size + 1) (w.heap.size + 1 + 1) #[.int .u32 0, .int .u32 0, .int .u32 0, .int .u32 0, .int .u32 0, .int .u32 0, .int .u32 0, .int .u32 0, .int .u32 0, .bool false, .bool false, .bool false, .bool false] #[.int .u32 raw.c, .int .u32 raw.a, .int .u32 raw.d, .int .u32 de.c, .int .u32 de.a, .int .u32 de.d, .int .u32 sha.c, .int .u32 sha.a, .int .u32 sha.d, .bool fa, .bool fb, .bool al, .bool gr] #[.bool iv, .bool ie, .int .u32 id] Ba U2) := HP2.out.drew.below ((Below.refl _ _).alloc (Nat.le_refl _) _)
  have HSO : Hid (Calls Try.prog 69 #[.agg #[.pointer (some ⟨bb, 0, none⟩), .int .i64 40, .int .i64 3], .slice (some ⟨w2.drew.heap.size, 0, none⟩) 3 3] (w2.drew.alloc (.cells #[.int .u32 raw.c, .int .u32 raw.a, .int .u32 raw.d] 30)) fun e w' => e = .returned (.tuple #[]) ∧ Tn (w2.drew.alloc (.cells #[.int .u32 raw.c, .int .u32 raw.a, .int .u32 raw.d] 30)) w' cb Bb.c) := by
    rw [← HBb.out]
    exact shift_out bb cb w2.drew.heap.size raw.c raw.a raw.d fv Ba _ HPA.out.br (Blk.new _ _ _) (Nat.ne_of_gt HP2.out.drew.br.cel.lt)
  refine wp_region_float [0, 1, 2, 3, 4, 5, 6, 7, 8, 9, 10, 11, 12] [13, 14] [0, 1, 2, 4, 5, 7, 8, 10, 11] mixed (fun ω => Blk ω pb (pairV bb ub (.slice pa pn pc) last) 93 ∧ Blk ω (w.heap.size + 1) #[.int .u32 raw.c, .int .u32 raw.a, .int .u32 raw.d, .int .u32 de.c, .int .u32 de.a, .int .u32 de.d, .int .u32 sha.c, .int .u32 sha.a, .int .u32 sha.d, .bool fa, .bool fb, .bool al, .bool gr] 51) (by kernel_rfl) rfl (by kernel_rfl) ⟨HP2.out.drew.hp, HP2.out.drew.ht⟩ ?_
  iterate 13 refine wpFl_op _ _ _ _ rfl rfl (fun ω hj => by
    first
    | (go_simp; rfl)
    | (have q10 : ω.cell? ⟨pb, 10, none⟩ = some (.pointer (some ⟨bb, 0, none⟩)) := (hj rfl).1.cell 10
       have q11 : ω.cell? ⟨pb, 11, none⟩ = some (.int .i64 40) := (hj rfl).1.cell 11
       have q12 : ω.cell? ⟨pb, 12, none⟩ = some (.int .i64 3) := (hj rfl).1.cell 12
       have q0 : ω.cell? ⟨w.heap.size + 1, 0, none⟩ = some (.int .u32 raw.c) := (hj rfl).2.cell 0
       have q1 : ω.cell? ⟨w.heap.size + 1, 1, none⟩ = some (.int .u32 raw.a) := (hj rfl).2.cell 1
       have q2 : ω.cell? ⟨w.heap.size + 1, 2, none⟩ = some (.int .u32 raw.d) := (hj rfl).2.cell 2
       go_simp; rfl)) ?_
  refine wpFl_nil _ _ ?_
  simp only [Act.put, List.setIfInBounds_toArray]
  refine wpCh_one _ _ _ _ rfl ?_
  simp only [List.getElem_toArray, List.getElem_cons_succ, List.getElem_cons_zero]
  go_wp2_with fail
  refine ⟨⟨HPA.out.hp, HPA.out.ht⟩, ?_⟩
  refine wpCh_rest _ _ _ _ [_] _ _ rfl (by kernel_rfl) ?_
  simp only [List.getElem_toArray, List.getElem_cons_succ, List.getElem_cons_zero]
  go_wp2_with fail
  refine HSO.out.mono ?_
  rintro e w3 ⟨rfl, ht3⟩
  have HP3 : Hid (PR w w3 pb bb cb ub mb fv (.slice pa pn pc) lv gv lv' gv' prog last w.heap.size (w.heap.size + 1) (w.heap.size + 1 + 1) #[.int .u32 0, .int .u32 0, .int .u32 0, .int .u32 0, .int .u32 0, .int .u32 0, .int .u32 0, .int .u32 0, .int .u32 0, .bool false, .bool false, .bool false, .bool false] #[.int .u32 raw.c, .int .u32 raw.a, .int .u32 raw.d, .int .u32 de.c, .int .u32 de.a, .int .u32 de.d, .int .u32 sha.c, .int .u32 sha.a, .int .u32 sha.d, .bool fa, .bool fb, .bool al, .bool gr] #[.bool iv, .bool ie, .int .u32 id] Bb U2) := HPA.out.core ht3 HKb.out.1 HKb.out.2
  clear HSO HP2 HPA ht3
  go_upto_region 18 with fail
  obtain ⟨f1, hf1⟩ : ∃ f1, flagI iv = f1 := ⟨_, rfl⟩
  obtain ⟨f2, hf2⟩ : ∃ f2, flagI ie = f2 := ⟨_, rfl⟩
  have HF1 : Hid (∀ V : World, Calls Try.prog 68 #[.bool iv] V fun e w' => e = .returned (.int .u32 f1) ∧ w' = V) := by rw [← hf1]; exact fun V => flag_any iv V
  have HF2 : Hid (∀ V : World, Calls Try.prog 68 #[.bool ie] V fun e w' => e = .returned (.int .u32 f2) ∧ w' = V) := by rw [← hf2]; exact fun V => flag_any ie V
  have hm1 : f1 * 1 % 4294967296 = f1 := by rw [← hf1]; unfold flagI; split <;> rfl
  have hm1' : f1 % 4294967296 = f1 := by rw [← hf1]; unfold flagI; split <;> rfl
  have hm2 : f2 * 2 % 4294967296 = f2 * 2 := by rw [← hf2]; unfold flagI; split <;> rfl
  have HIN : Hid (inFl ⟨iv, ie, id⟩ = (bits BinOp.or IntKind.u32 f1 (f2 * 2))) := by unfold Hid inFl; rw [hf1, hf2]
  clear hf1 hf2
  have HPA : Hid (PR w (w3.drew.alloc (.cells #[.int .u32 (bits BinOp.or IntKind.u32 f1 (f2 * 2)), .int .u32 id] 30)) pb bb cb ub mb fv (.slice pa pn pc) lv gv lv' gv' prog last w.heap.size (w.heap.size + 1) (w.heap.size + 1 + 1) #[.int .u32 0, .int .u32 0, .int .u32 0, .int .u32 0, .int .u32 0, .int .u32 0, .int .u32 0, .int .u32 0, .int .u32 0, .bool false, .bool false, .bool false, .bool false] #[.int .u32 raw.c, .int .u32 raw.a, .int .u32 raw.d, .int .u32 de.c, .int .u32 de.a, .int .u32 de.d, .int .u32 sha.c, .int .u32 sha.a, .int .u32 sha.d, .bool fa, .bool fb, .bool al, .bool gr] #[.bool iv, .bool ie, .int .u32 id] Bb U2) := HP3.out.drew.below ((Below.refl _ _).alloc (Nat.le_refl _) _)
  have HSI : Hid (Calls Try.prog 69 #[.agg #[.pointer (some ⟨bb, 0, none⟩), .int .i64 36, .int .i64 2], .slice (some ⟨w3.drew.heap.size, 0, none⟩) 2 2] (w3.drew.alloc (.cells #[.int .u32 (bits BinOp.or IntKind.u32 f1 (f2 * 2)), .int .u32 id] 30)) fun e w' => e = .returned (.tuple #[]) ∧ Tn (w3.drew.alloc (.cells #[.int .u32 (bits BinOp.or IntKind.u32 f1 (f2 * 2)), .int .u32 id] 30)) w' cb Bc.c) := by
    rw [← HBc.out, HIN.out]
    exact shift_in bb cb w3.drew.heap.size (bits BinOp.or IntKind.u32 f1 (f2 * 2)) id fv Bb _ HPA.out.br (Blk.new _ _ _) (Nat.ne_of_gt HP3.out.drew.br.cel.lt)
  refine wp_region_float [0, 1, 2, 3, 4, 5, 6, 7, 8, 9, 10, 11, 12, 13, 14] [15, 16] [0, 1, 2, 4, 6, 7, 8, 10, 11, 12, 13] mixed (fun ω => Blk ω pb (pairV bb ub (.slice pa pn pc) last) 93 ∧ Blk ω (w.heap.size + 1 + 1) #[.bool iv, .bool ie, .int .u32 id] 112) (by kernel_rfl) rfl (by kernel_rfl) ⟨HP3.out.drew.hp, HP3.out.drew.hi⟩ ?_
  iterate 3 refine wpFl_op _ _ _ _ rfl rfl (fun ω hj => by go_simp; rfl) ?_
  refine wpFl_op _ _ _ _ rfl rfl (fun ω hj => by
    have q7 : ω.cell? ⟨pb, 7, none⟩ = some (.pointer (some ⟨bb, 0, none⟩)) := (hj rfl).1.cell 7
    have q8 : ω.cell? ⟨pb, 8, none⟩ = some (.int .i64 36) := (hj rfl).1.cell 8
    have q9 : ω.cell? ⟨pb, 9, none⟩ = some (.int .i64 2) := (hj rfl).1.cell 9
    go_simp; rfl) ?_
  refine wpFl_op _ _ _ _ rfl rfl (fun ω hj => by go_simp; rfl) ?_
  refine wpFl_op _ _ _ _ rfl rfl (fun ω hj => by
    have q0 : ω.cell? ⟨w.heap.size + 1 + 1, 0, none⟩ = some (.bool iv) := (hj rfl).2.cell 0
    go_simp; rfl) ?_
  refine wpFl_call _ _ _ _ 68 #[.bool iv] rfl rfl (fun ω => by first | (go_simp; done) | (go_simp; rfl)) (fun ω _ => HF1.out ω) ?_
  iterate 2 refine wpFl_op _ _ _ _ rfl rfl (fun ω hj => by go_simp; rfl) ?_
  refine wpFl_op _ _ _ _ rfl rfl (fun ω hj => by
    have q0 : ω.cell? ⟨w.heap.size + 1 + 1, 1, none⟩ = some (.bool ie) := (hj rfl).2.cell 1
    go_simp; rfl) ?_
  refine wpFl_call _ _ _ _ 68 #[.bool ie] rfl rfl (fun ω => by first | (go_simp; done) | (go_simp; rfl)) (fun ω _ => HF2.out ω) ?_
  iterate 3 refine wpFl_op _ _ _ _ rfl rfl (fun ω hj => by go_simp; rfl) ?_
  refine wpFl_op _ _ _ _ rfl rfl (fun ω hj => by
    have q0 : ω.cell? ⟨w.heap.size + 1 + 1, 2, none⟩ = some (.int .u32 id) := (hj rfl).2.cell 2
    go_simp; rfl) ?_
  refine wpFl_nil _ _ ?_
  simp only [Act.put, List.setIfInBounds_toArray]
  refine wpCh_one _ _ _ _ rfl ?_
  simp only [List.getElem_toArray, List.getElem_cons_succ, List.getElem_cons_zero]
  go_wp2_with fail
  refine ⟨⟨HPA.out.hp, HPA.out.hi⟩, ?_⟩
  refine wpCh_rest _ _ _ _ [_] _ _ rfl (by kernel_rfl) ?_
  simp only [List.getElem_toArray, List.getElem_cons_succ, List.getElem_cons_zero]
  go_wp2_with fail
  refine HSI.out.mono ?_
  rintro e w4 ⟨rfl, ht4⟩
  have HP4 : Hid (PR w w4 pb bb cb ub mb fv (.slice pa pn pc) lv gv lv' gv' prog last w.heap.size (w.heap.size + 1) (w.heap.size + 1 + 1) #[.int .u32 0, .int .u32 0, .int .u32 0, .int .u32 0, .int .u32 0, .int .u32 0, .int .u32 0, .int .u32 0, .int .u32 0, .bool false, .bool false, .bool false, .bool false] #[.int .u32 raw.c, .int .u32 raw.a, .int .u32 raw.d, .int .u32 de.c, .int .u32 de.a, .int .u32 de.d, .int .u32 sha.c, .int .u32 sha.a, .int .u32 sha.d, .bool fa, .bool fb, .bool al, .bool gr] #[.bool iv, .bool ie, .int .u32 id] Bc U2) := HPA.out.core ht4 HKc.out.1 HKc.out.2
  clear HSI HP3 HPA ht4 HF1 HF2 hm1 hm1' hm2
  have c0 : w4.cell? ⟨pb, 0, none⟩ = some (.pointer (some ⟨bb, 0, none⟩)) := HP4.out.hp.cell 0
  have hnw : Bc.now < 4294967295 := by
    rw [HKc.out.2, HKb.out.2, HKa.out.2, HKP.out.2.2, HKP.out.1.2]; exact HN.out.2
  have HCL := hid_of (clock_any bb cb fv Bc hnw w4 HP4.out.br)
  have HP5 : Hid (PR w (put w4 bb (bV cb fv (Bc.now + 1)) 125) pb bb cb ub mb fv (.slice pa pn pc) lv gv lv' gv' prog last w.heap.size (w.heap.size + 1) (w.heap.size + 1 + 1) #[.int .u32 0, .int .u32 0, .int .u32 0, .int .u32 0, .int .u32 0, .int .u32 0, .int .u32 0, .int .u32 0, .int .u32 0, .bool false, .bool false, .bool false, .bool false] #[.int .u32 raw.c, .int .u32 raw.a, .int .u32 raw.d, .int .u32 de.c, .int .u32 de.a, .int .u32 de.d, .int .u32 sha.c, .int .u32 sha.a, .int .u32 sha.d, .bool fa, .bool fb, .bool al, .bool gr] #[.bool iv, .bool ie, .int .u32 id] B3 U2) := by
    rw [← HE.out]; exact HP4.out.clock hnw
  clear HP4 hnw
  go_upto_region 19 with fail
  refine wp_region_list ?_
  go_wp2_with fail
  refine HCL.out.mono ?_
  rintro e w5 ⟨rfl, hw5⟩
  rw [← hw5] at HP5
  clear HCL hw5 c0
  go_upto_region 20 with fail
  have t0 : w5.cell? ⟨w.heap.size + 1, 0, none⟩ = some (.int .u32 raw.c) := HP5.out.ht.cell 0
  have t1 : w5.cell? ⟨w.heap.size + 1, 1, none⟩ = some (.int .u32 raw.a) := HP5.out.ht.cell 1
  have t2 : w5.cell? ⟨w.heap.size + 1, 2, none⟩ = some (.int .u32 raw.d) := HP5.out.ht.cell 2
  have t3 : w5.cell? ⟨w.heap.size + 1, 3, none⟩ = some (.int .u32 de.c) := HP5.out.ht.cell 3
  have t4 : w5.cell? ⟨w.heap.size + 1, 4, none⟩ = some (.int .u32 de.a) := HP5.out.ht.cell 4
  have t5 : w5.cell? ⟨w.heap.size + 1, 5, none⟩ = some (.int .u32 de.d) := HP5.out.ht.cell 5
  have t6 : w5.cell? ⟨w.heap.size + 1, 6, none⟩ = some (.int .u32 sha.c) := HP5.out.ht.cell 6
  have t7 : w5.cell? ⟨w.heap.size + 1, 7, none⟩ = some (.int .u32 sha.a) := HP5.out.ht.cell 7
  have t8 : w5.cell? ⟨w.heap.size + 1, 8, none⟩ = some (.int .u32 sha.d) := HP5.out.ht.cell 8
  have t9 : w5.cell? ⟨w.heap.size + 1, 9, none⟩ = some (.bool fa) := HP5.out.ht.cell 9
  have t10 : w5.cell? ⟨w.heap.size + 1, 10, none⟩ = some (.bool fb) := HP5.out.ht.cell 10
  have t11 : w5.cell? ⟨w.heap.size + 1, 11, none⟩ = some (.bool al) := HP5.out.ht.cell 11
  have t12 : w5.cell? ⟨w.heap.size + 1, 12, none⟩ = some (.bool gr) := HP5.out.ht.cell 12
  have hpt : w.heap.size + 1 ≠ pb := HP5.out.ht.neT HP5.out.hp (by decide)
  obtain ⟨u6, hu6, hl6⟩ := HP5.out.hp.out
  have HP6 : Hid (PR w (put u6 pb (pairV bb ub (.slice pa pn pc) ⟨raw, de, sha, fa, fb, al, gr⟩) 93) pb bb cb ub mb fv (.slice pa pn pc) lv gv lv' gv' prog ⟨raw, de, sha, fa, fb, al, gr⟩ w.heap.size (w.heap.size + 1) (w.heap.size + 1 + 1) #[.int .u32 0, .int .u32 0, .int .u32 0, .int .u32 0, .int .u32 0, .int .u32 0, .int .u32 0, .int .u32 0, .int .u32 0, .bool false, .bool false, .bool false, .bool false] #[.int .u32 raw.c, .int .u32 raw.a, .int .u32 raw.d, .int .u32 de.c, .int .u32 de.a, .int .u32 de.d, .int .u32 sha.c, .int .u32 sha.a, .int .u32 sha.d, .bool fa, .bool fb, .bool al, .bool gr] #[.bool iv, .bool ie, .int .u32 id] B3 U2) := by
    have := HP5.out.last_ ⟨raw, de, sha, fa, fb, al, gr⟩
    rw [hu6, put_put] at this
    exact this
  rw [hu6] at t0 t1 t2 t3 t4 t5 t6 t7 t8 t9 t10 t11 t12
  clear HP5
  subst hu6
  unfold pairV at HP6 t0 t1 t2 t3 t4 t5 t6 t7 t8 t9 t10 t11 t12 ⊢
  go_upto_region 21 with fail
  obtain ⟨w7, hw7⟩ : ∃ w7, put u6 pb #[.pointer (some ⟨bb, 0, none⟩), .pointer (some ⟨bb, 0, none⟩), .int .i64 0, (.slice pa pn pc), .pointer (some ⟨bb, 0, none⟩), .int .i64 18, (.slice pa pn pc), .pointer (some ⟨bb, 0, none⟩), .int .i64 36, .int .i64 2, .pointer (some ⟨bb, 0, none⟩), .int .i64 40, .int .i64 3, .pointer (some ⟨ub, 0, none⟩), .int .u32 raw.c, .int .u32 raw.a, .int .u32 raw.d, .int .u32 de.c, .int .u32 de.a, .int .u32 de.d, .int .u32 sha.c, .int .u32 sha.a, .int .u32 sha.d, .bool fa, .bool fb, .bool al, .bool gr] 93 = w7 := ⟨_, rfl⟩
  rw [hw7] at HP6 ⊢
  have hpv2 : #[.pointer (some ⟨bb, 0, none⟩), .pointer (some ⟨bb, 0, none⟩), .int .i64 0, (.slice pa pn pc), .pointer (some ⟨bb, 0, none⟩), .int .i64 18, (.slice pa pn pc), .pointer (some ⟨bb, 0, none⟩), .int .i64 36, .int .i64 2, .pointer (some ⟨bb, 0, none⟩), .int .i64 40, .int .i64 3, .pointer (some ⟨ub, 0, none⟩), .int .u32 raw.c, .int .u32 raw.a, .int .u32 raw.d, .int .u32 de.c, .int .u32 de.a, .int .u32 de.d, .int .u32 sha.c, .int .u32 sha.a, .int .u32 sha.d, .bool fa, .bool fb, .bool al, .bool gr] = pairV bb ub (.slice pa pn pc) ⟨raw, de, sha, fa, fb, al, gr⟩ := rfl
  clear hw7 hl6 t0 t1 t2 t3 t4 t5 t6 t7 t8 t9 t10 t11 t12 hpt
  have t0 : w7.cell? ⟨w.heap.size + 1, 0, none⟩ = some (.int .u32 raw.c) := HP6.out.ht.cell 0
  have t1 : w7.cell? ⟨w.heap.size + 1, 1, none⟩ = some (.int .u32 raw.a) := HP6.out.ht.cell 1
  have t2 : w7.cell? ⟨w.heap.size + 1, 2, none⟩ = some (.int .u32 raw.d) := HP6.out.ht.cell 2
  have t3 : w7.cell? ⟨w.heap.size + 1, 3, none⟩ = some (.int .u32 de.c) := HP6.out.ht.cell 3
  have t4 : w7.cell? ⟨w.heap.size + 1, 4, none⟩ = some (.int .u32 de.a) := HP6.out.ht.cell 4
  have t5 : w7.cell? ⟨w.heap.size + 1, 5, none⟩ = some (.int .u32 de.d) := HP6.out.ht.cell 5
  have t6 : w7.cell? ⟨w.heap.size + 1, 6, none⟩ = some (.int .u32 sha.c) := HP6.out.ht.cell 6
  have t7 : w7.cell? ⟨w.heap.size + 1, 7, none⟩ = some (.int .u32 sha.a) := HP6.out.ht.cell 7
  have t8 : w7.cell? ⟨w.heap.size + 1, 8, none⟩ = some (.int .u32 sha.d) := HP6.out.ht.cell 8
  have t9 : w7.cell? ⟨w.heap.size + 1, 9, none⟩ = some (.bool fa) := HP6.out.ht.cell 9
  have t10 : w7.cell? ⟨w.heap.size + 1, 10, none⟩ = some (.bool fb) := HP6.out.ht.cell 10
  have t11 : w7.cell? ⟨w.heap.size + 1, 11, none⟩ = some (.bool al) := HP6.out.ht.cell 11
  have t12 : w7.cell? ⟨w.heap.size + 1, 12, none⟩ = some (.bool gr) := HP6.out.ht.cell 12
  have hrt : w.heap.size + 1 ≠ w.heap.size := Ne.symm HP6.out.rt
  obtain ⟨u8, hu8, hl8⟩ := HP6.out.hr.out
  have HP8 : Hid (PR w (put u8 w.heap.size #[.int .u32 raw.c, .int .u32 raw.a, .int .u32 raw.d, .int .u32 de.c, .int .u32 de.a, .int .u32 de.d, .int .u32 sha.c, .int .u32 sha.a, .int .u32 sha.d, .bool fa, .bool fb, .bool al, .bool gr] 51) pb bb cb ub mb fv (.slice pa pn pc) lv gv lv' gv' prog ⟨raw, de, sha, fa, fb, al, gr⟩ w.heap.size (w.heap.size + 1) (w.heap.size + 1 + 1) #[.int .u32 raw.c, .int .u32 raw.a, .int .u32 raw.d, .int .u32 de.c, .int .u32 de.a, .int .u32 de.d, .int .u32 sha.c, .int .u32 sha.a, .int .u32 sha.d, .bool fa, .bool fb, .bool al, .bool gr] #[.int .u32 raw.c, .int .u32 raw.a, .int .u32 raw.d, .int .u32 de.c, .int .u32 de.a, .int .u32 de.d, .int .u32 sha.c, .int .u32 sha.a, .int .u32 sha.d, .bool fa, .bool fb, .bool al, .bool gr] #[.bool iv, .bool ie, .int .u32 id] B3 U2) := by
    have := HP6.out.res #[.int .u32 raw.c, .int .u32 raw.a, .int .u32 raw.d, .int .u32 de.c, .int .u32 de.a, .int .u32 de.d, .int .u32 sha.c, .int .u32 sha.a, .int .u32 sha.d, .bool fa, .bool fb, .bool al, .bool gr]
    rw [hu8, put_put] at this
    exact this
  rw [hu8] at t0 t1 t2 t3 t4 t5 t6 t7 t8 t9 t10 t11 t12
  clear HP6 hpv2
  subst hu8
  go_wp2_with fail
  exact bodyPost_ret (v := .agg #[.int .u32 raw.c, .int .u32 raw.a, .int .u32 raw.d, .int .u32 de.c, .int .u32 de.a, .int .u32 de.d, .int .u32 sha.c, .int .u32 sha.a, .int .u32 sha.d, .bool fa, .bool fb, .bool al, .bool gr]) (results_cell_row (by rfl) _ _ w.heap.size 51 _ (0, 0) _ (by rfl) (Blk.put_same hl8) Try.underlying51 rfl (by rw [size51]; rfl)) rfl ⟨rfl, lv', gv', HP8.out.hp, HP8.out.br, HP8.out.u, HP8.out.fr, HP8.out.lo, HP8.out.go⟩
end Go.Proofs.Qxb6500749a
