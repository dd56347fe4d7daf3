import Derived.Test.Qxb6500749aLx4
import Derived.Test.Qxb6500749aMdm
namespace Go.Proofs.Qxb6500749a
open Go.RowKit
attribute [local go_sem] put_size put_cell_same put_cell_ne put_frozen_same put_frozen_ne put_setCell_same put_setCell_ne put_drew
attribute [local go_sem] drewN_setCell drewN_alloc drewN_put
/-! ### Law 3: the model of the master -/
theorem asN_short {f : Int → Int} {desc : Int} {k : Nat} (hm : ∀ a, W32 (f a)) (hst : (asN (as0 f desc) k).D.st ≠ 1) : (asN (as0 f desc) k).log.length ≤ 37 := by
  have h37 : (asN (as0 f desc) 37).D.st ≠ 1 := fun q => by
    rcases (aivN hm desc 37).go q with ⟨_, _, z, _⟩ | ⟨_, i, _, _, z, ⟨_, y⟩ | ⟨_, y, _⟩⟩
    · omega
    · omega
    · omega
  rw [asN_same hst h37]
  have := asN_len (as0 f desc) 37
  have h0 : (as0 f desc).log.length = 0 := rfl
  omega
def fr3q (rg : Nat) (dv : Bool) (u : Nat → Value) : Act :=
  { tmps := ((u 0) :: (u 1) :: (u 2) :: (.pointer (some ⟨rg, 0, none⟩)) :: (u 4) :: (u 5) :: (u 6) :: (.bool dv) :: (u 8) :: (u 9) :: (u 10) :: (u 11) :: (u 12) :: (u 13) :: (u 14) :: (u 15) :: (u 16) :: (u 17) :: (u 18) :: (u 19) :: (u 20) :: (u 21) :: (u 22) :: (u 23) :: (u 24) :: (u 25) :: (u 26) :: (u 27) :: (u 28) :: (u 29) :: (u 30) :: (u 31) :: (u 32) :: (u 33) :: (u 34) :: (u 35) :: (u 36) :: (u 37) :: (u 38) :: (u 39) :: (u 40) :: (u 41) :: (u 42) :: (u 43) :: (u 44) :: (u 45) :: (u 46) :: (u 47) :: (u 48) :: (u 49) :: (u 50) :: (u 51) :: (u 52) :: (u 53) :: (u 54) :: (u 55) :: (u 56) :: (u 57) :: (u 58) :: (u 59) :: (u 60) :: (u 61) :: (u 62) :: (u 63) :: (u 64) :: (u 65) :: (u 66) :: (u 67) :: (u 68) :: (u 69) :: (u 70) :: (u 71) :: (u 72) :: (u 73) :: (u 74) :: (u 75) :: (u 76) :: (u 77) :: (u 78) :: (u 79) :: (u 80) :: (u 81) :: (u 82) :: (u 83) :: (u 84) :: (u 85) :: (u 86) :: (u 87) :: (u 88) :: (u 89) :: (u 90) :: (u 91) :: (u 92) :: (u 93) :: (u 94) :: (u 95) :: (u 96) :: (u 97) :: (u 98) :: (u 99) :: (u 100) :: (u 101) :: (u 102) :: (u 103) :: (u 104) :: (u 105) :: (u 106) :: (u 107) :: (u 108) :: (u 109) :: (u 110) :: (u 111) :: (u 112) :: (u 113) :: (u 114) :: (u 115) :: (u 116) :: (u 117) :: (u 118) :: (u 119) :: (u 120) :: (u 121) :: (u 122) :: (u 123) :: (u 124) :: (u 125) :: (u 126) :: (u 127) :: (u 128) :: (u 129) :: (u 130) :: (u 131) :: (u 132) :: (u 133) :: (u 134) :: (u 135) :: (u 136) :: (u 137) :: (u 138) :: (u 139) :: (u 140) :: (u 141) :: (u 142) :: (u 143) :: (u 144) :: (u 145) :: (u 146) :: (u 147) :: (u 148) :: (u 149) :: (u 150) :: (u 151) :: (u 152) :: (u 153) :: (u 154) :: (u 155) :: (u 156) :: (u 157) :: (u 158) :: (u 159) :: (u 160) :: (u 161) :: (u 162) :: (u 163) :: (u 164) :: (u 165) :: (u 166) :: (u 167) :: (u 168) :: (u 169) :: (u 170) :: (u 171) :: (u 172) :: (u 173) :: (u 174) :: (u 175) :: (u 176) :: (u 177) :: (u 178) :: (u 179) :: (u 180) :: (u 181) :: (u 182) :: (u 183) :: (u 184) :: (u 185) :: (u 186) :: (u 187) :: (u 188) :: (u 189) :: (u 190) :: (u 191) :: (u 192) :: (u 193) :: (u 194) :: (u 195) :: (u 196) :: (u 197) :: (u 198) :: (u 199) :: (u 200) :: (u 201) :: (u 202) :: (u 203) :: (u 204) :: (u 205) :: (u 206) :: (u 207) :: (u 208) :: (u 209) :: (u 210) :: (u 211) :: (u 212) :: (u 213) :: (u 214) :: (u 215) :: (u 216) :: (u 217) :: (u 218) :: (u 219) :: (u 220) :: (u 221) :: (u 222) :: (u 223) :: (u 224) :: (u 225) :: (u 226) :: (u 227) :: (u 228) :: (u 229) :: (u 230) :: (u 231) :: (u 232) :: (u 233) :: (u 234) :: (u 235) :: (u 236) :: (u 237) :: (u 238) :: (u 239) :: (u 240) :: (u 241) :: (u 242) :: (u 243) :: (u 244) :: (u 245) :: (u 246) :: (u 247) :: (u 248) :: (u 249) :: [] : List Value).toArray, defers := [] }
def fr3q1 (rg : Nat) (dv : Bool) (ga : Option Addr) (gn gc : Nat) (ms : Int) (u : Nat → Value) : Act :=
  { tmps := ((u 0) :: (u 1) :: (u 2) :: (.pointer (some ⟨rg, 0, none⟩)) :: (u 4) :: (u 5) :: (u 6) :: (.bool dv) :: (u 8) :: (u 9) :: (u 10) :: (u 11) :: (u 12) :: (u 13) :: (u 14) :: (u 15) :: (u 16) :: (u 17) :: (u 18) :: (u 19) :: (u 20) :: (u 21) :: (u 22) :: (u 23) :: (u 24) :: (u 25) :: (u 26) :: (u 27) :: (u 28) :: (u 29) :: (u 30) :: (u 31) :: (u 32) :: (u 33) :: (u 34) :: (u 35) :: (u 36) :: (u 37) :: (u 38) :: (u 39) :: (u 40) :: (u 41) :: (u 42) :: (u 43) :: (u 44) :: (u 45) :: (u 46) :: (u 47) :: (u 48) :: (u 49) :: (u 50) :: (u 51) :: (u 52) :: (u 53) :: (u 54) :: (u 55) :: (u 56) :: (u 57) :: (u 58) :: (u 59) :: (u 60) :: (u 61) :: (u 62) :: (u 63) :: (u 64) :: (u 65) :: (u 66) :: (u 67) :: (u 68) :: (u 69) :: (u 70) :: (u 71) :: (u 72) :: (u 73) :: (u 74) :: (u 75) :: (u 76) :: (u 77) :: (u 78) :: (u 79) :: (u 80) :: (u 81) :: (u 82) :: (u 83) :: (u 84) :: (u 85) :: (u 86) :: (u 87) :: (u 88) :: (u 89) :: (u 90) :: (u 91) :: (u 92) :: (u 93) :: (u 94) :: (u 95) :: (u 96) :: (u 97) :: (u 98) :: (u 99) :: (u 100) :: (u 101) :: (u 102) :: (u 103) :: (u 104) :: (u 105) :: (u 106) :: (u 107) :: (u 108) :: (u 109) :: (u 110) :: (u 111) :: (u 112) :: (u 113) :: (u 114) :: (u 115) :: (u 116) :: (u 117) :: (u 118) :: (u 119) :: (u 120) :: (u 121) :: (u 122) :: (u 123) :: (u 124) :: (u 125) :: (u 126) :: (u 127) :: (u 128) :: (u 129) :: (u 130) :: (u 131) :: (u 132) :: (u 133) :: (u 134) :: (u 135) :: (u 136) :: (u 137) :: (u 138) :: (u 139) :: (u 140) :: (u 141) :: (u 142) :: (u 143) :: (u 144) :: (u 145) :: (u 146) :: (u 147) :: (u 148) :: (u 149) :: (u 150) :: (u 151) :: (u 152) :: (u 153) :: (u 154) :: (u 155) :: (u 156) :: (u 157) :: (u 158) :: (u 159) :: (u 160) :: (u 161) :: (u 162) :: (u 163) :: (u 164) :: (u 165) :: (u 166) :: (u 167) :: (u 168) :: (u 169) :: (u 170) :: (u 171) :: (u 172) :: (u 173) :: (u 174) :: (u 175) :: (u 176) :: (u 177) :: (u 178) :: (u 179) :: (u 180) :: (u 181) :: (u 182) :: (u 183) :: (u 184) :: (u 185) :: (u 186) :: (u 187) :: (u 188) :: (u 189) :: (u 190) :: (u 191) :: (u 192) :: (.tuple #[.slice ga gn gc, .int .u8 ms]) :: (u 194) :: (u 195) :: (u 196) :: (u 197) :: (u 198) :: (u 199) :: (u 200) :: (u 201) :: (u 202) :: (u 203) :: (u 204) :: (u 205) :: (u 206) :: (u 207) :: (u 208) :: (u 209) :: (u 210) :: (u 211) :: (u 212) :: (u 213) :: (u 214) :: (u 215) :: (u 216) :: (u 217) :: (u 218) :: (u 219) :: (u 220) :: (u 221) :: (u 222) :: (u 223) :: (u 224) :: (u 225) :: (u 226) :: (u 227) :: (u 228) :: (u 229) :: (u 230) :: (u 231) :: (u 232) :: (u 233) :: (u 234) :: (u 235) :: (u 236) :: (u 237) :: (u 238) :: (u 239) :: (u 240) :: (u 241) :: (u 242) :: (u 243) :: (u 244) :: (u 245) :: (u 246) :: (u 247) :: (u 248) :: (u 249) :: [] : List Value).toArray, defers := [] }
def fr3m (rg : Nat) (dv : Bool) (ga : Option Addr) (gn gc : Nat) (ms : Int) (u : Nat → Value) : Act :=
  { tmps := ((u 0) :: (u 1) :: (u 2) :: (.pointer (some ⟨rg, 0, none⟩)) :: (u 4) :: (u 5) :: (u 6) :: (.bool dv) :: (.slice ga gn gc) :: (.int .u8 ms) :: (u 10) :: (u 11) :: (u 12) :: (u 13) :: (u 14) :: (u 15) :: (u 16) :: (u 17) :: (u 18) :: (u 19) :: (u 20) :: (u 21) :: (u 22) :: (u 23) :: (u 24) :: (u 25) :: (u 26) :: (u 27) :: (u 28) :: (u 29) :: (u 30) :: (u 31) :: (u 32) :: (u 33) :: (u 34) :: (u 35) :: (u 36) :: (u 37) :: (u 38) :: (u 39) :: (u 40) :: (u 41) :: (u 42) :: (u 43) :: (u 44) :: (u 45) :: (u 46) :: (u 47) :: (u 48) :: (u 49) :: (u 50) :: (u 51) :: (u 52) :: (u 53) :: (u 54) :: (u 55) :: (u 56) :: (u 57) :: (u 58) :: (u 59) :: (u 60) :: (u 61) :: (u 62) :: (u 63) :: (u 64) :: (u 65) :: (u 66) :: (u 67) :: (u 68) :: (u 69) :: (u 70) :: (u 71) :: (u 72) :: (u 73) :: (u 74) :: (u 75) :: (u 76) :: (u 77) :: (u 78) :: (u 79) :: (u 80) :: (u 81) :: (u 82) :: (u 83) :: (u 84) :: (u 85) :: (u 86) :: (u 87) :: (u 88) :: (u 89) :: (u 90) :: (u 91) :: (u 92) :: (u 93) :: (u 94) :: (u 95) :: (u 96) :: (u 97) :: (u 98) :: (u 99) :: (u 100) :: (u 101) :: (u 102) :: (u 103) :: (u 104) :: (u 105) :: (u 106) :: (u 107) :: (u 108) :: (u 109) :: (u 110) :: (u 111) :: (u 112) :: (u 113) :: (u 114) :: (u 115) :: (u 116) :: (u 117) :: (u 118) :: (u 119) :: (u 120) :: (u 121) :: (u 122) :: (u 123) :: (u 124) :: (u 125) :: (u 126) :: (u 127) :: (u 128) :: (u 129) :: (u 130) :: (u 131) :: (u 132) :: (u 133) :: (u 134) :: (u 135) :: (u 136) :: (u 137) :: (u 138) :: (u 139) :: (u 140) :: (u 141) :: (u 142) :: (u 143) :: (u 144) :: (u 145) :: (u 146) :: (u 147) :: (u 148) :: (u 149) :: (u 150) :: (u 151) :: (u 152) :: (u 153) :: (u 154) :: (u 155) :: (u 156) :: (u 157) :: (u 158) :: (u 159) :: (u 160) :: (u 161) :: (u 162) :: (u 163) :: (u 164) :: (u 165) :: (u 166) :: (u 167) :: (u 168) :: (u 169) :: (u 170) :: (u 171) :: (u 172) :: (u 173) :: (u 174) :: (u 175) :: (u 176) :: (u 177) :: (u 178) :: (u 179) :: (u 180) :: (u 181) :: (u 182) :: (u 183) :: (u 184) :: (u 185) :: (u 186) :: (u 187) :: (u 188) :: (u 189) :: (u 190) :: (u 191) :: (u 192) :: (u 193) :: (u 194) :: (u 195) :: (u 196) :: (u 197) :: (u 198) :: (u 199) :: (u 200) :: (u 201) :: (u 202) :: (u 203) :: (u 204) :: (u 205) :: (u 206) :: (u 207) :: (u 208) :: (u 209) :: (u 210) :: (u 211) :: (u 212) :: (u 213) :: (u 214) :: (u 215) :: (u 216) :: (u 217) :: (u 218) :: (u 219) :: (u 220) :: (u 221) :: (u 222) :: (u 223) :: (u 224) :: (u 225) :: (u 226) :: (u 227) :: (u 228) :: (u 229) :: (u 230) :: (u 231) :: (u 232) :: (u 233) :: (u 234) :: (u 235) :: (u 236) :: (u 237) :: (u 238) :: (u 239) :: (u 240) :: (u 241) :: (u 242) :: (u 243) :: (u 244) :: (u 245) :: (u 246) :: (u 247) :: (u 248) :: (u 249) :: [] : List Value).toArray, defers := [] }
set_option linter.unusedVariables false in
set_option linter.unusedSimpArgs false in
set_option maxRecDepth 100000 in
set_option maxHeartbeats 16000000 in
theorem reg25_0 (rg im : Nat) (dv : Bool) (desc : Int) (WZ : World) (PV : Option Addr → Nat → Nat → Int → World → Prop)
    (HF : Hid (∀ ω, Below WZ.heap.size WZ ω → ω.cell? ⟨rg, 1, none⟩ = some (.map (some im)) ∧ ω.cell? ⟨rg, 19, none⟩ = some (.int .u32 desc)))
    (CC : Hid (∀ ω, Below WZ.heap.size WZ ω → Calls Try.prog 26 #[.map (some im)] ω fun e w' => ∃ nb, e = .returned (.map (some nb)) ∧ Below WZ.heap.size WZ w' ∧ Calls Try.prog 25 #[.map (some nb), .int .u32 desc] w' fun e w2 => ∃ (ga : Option Addr) (gn gc : Nat) (ms : Int), e = .returned (.tuple #[.slice ga gn gc, .int .u8 ms]) ∧ PV ga gn gc ms w2))
    (ops : Array Oper) (hops : (Try.f3.body.bind (findR 25)).getD .skip = .region 25 ops true) (Q : Act → World → Prop)
    (HKR : Hid (∀ (act : Act) (w' : World) (ga : Option Addr) (gn gc : Nat) (ms : Int), act = fr3q1 rg dv ga gn gc ms (fun i => act.tmps.getD i undef) → PV ga gn gc ms w' → wpA0 Q Try.prog ops 4 (setAll (setAll (Array.replicate ops.size false) [0, 1, 2, 3, 5, 6, 7, 8]) [4, 9, 10]) act w'))
    (u : Nat → Value) (v0 : World) (HJ0 : Hid (Below WZ.heap.size WZ v0)) : wpA0 Q Try.prog ops 15 (Array.replicate ops.size false) (fr3q rg dv u) v0 := by
  conv at hops => lhs; whnf
  injection hops with _ ho _
  subst ho
  unfold fr3q
  refine wpA0_fl [0, 1, 2, 3, 5, 6, 7, 8] [4, 9, 10] [0, 1, 2, 5, 6, 7] 4 (fun ω => Below WZ.heap.size WZ ω) rfl (by kernel_rfl) (by kernel_rfl) (by kernel_rfl) (by kernel_rfl) (by kernel_rfl) HJ0.out ?_
  refine wpFl_yes _ _ _ _ rfl (by kernel_rfl) (fun ω hj => by first | (go_simp; rfl) | (obtain ⟨f1, f2⟩ := HF.out ω (hj rfl); go_simp; rfl)) ?_
  simp only [List.getElem_toArray, List.getElem_cons_succ, List.getElem_cons_zero, Act.put, List.setIfInBounds_toArray, List.set_cons_succ, List.set_cons_zero]
  refine wpFl_yes _ _ _ _ rfl (by kernel_rfl) (fun ω hj => by first | (go_simp; rfl) | (obtain ⟨f1, f2⟩ := HF.out ω (hj rfl); go_simp; rfl)) ?_
  simp only [List.getElem_toArray, List.getElem_cons_succ, List.getElem_cons_zero, Act.put, List.setIfInBounds_toArray, List.set_cons_succ, List.set_cons_zero]
  refine wpFl_yes _ _ _ _ rfl (by kernel_rfl) (fun ω hj => by first | (go_simp; rfl) | (obtain ⟨f1, f2⟩ := HF.out ω (hj rfl); go_simp; rfl)) ?_
  simp only [List.getElem_toArray, List.getElem_cons_succ, List.getElem_cons_zero, Act.put, List.setIfInBounds_toArray, List.set_cons_succ, List.set_cons_zero]
  refine wpFl_yes _ _ _ _ rfl (by kernel_rfl) (fun ω hj => by first | (go_simp; rfl) | (obtain ⟨f1, f2⟩ := HF.out ω (hj rfl); go_simp; rfl)) ?_
  simp only [List.getElem_toArray, List.getElem_cons_succ, List.getElem_cons_zero, Act.put, List.setIfInBounds_toArray, List.set_cons_succ, List.set_cons_zero]
  refine wpFl_yes _ _ _ _ rfl (by kernel_rfl) (fun ω hj => by first | (go_simp; rfl) | (obtain ⟨f1, f2⟩ := HF.out ω (hj rfl); go_simp; rfl)) ?_
  simp only [List.getElem_toArray, List.getElem_cons_succ, List.getElem_cons_zero, Act.put, List.setIfInBounds_toArray, List.set_cons_succ, List.set_cons_zero]
  refine wpFl_yes _ _ _ _ rfl (by kernel_rfl) (fun ω hj => by first | (go_simp; rfl) | (obtain ⟨f1, f2⟩ := HF.out ω (hj rfl); go_simp; rfl)) ?_
  simp only [List.getElem_toArray, List.getElem_cons_succ, List.getElem_cons_zero, Act.put, List.setIfInBounds_toArray, List.set_cons_succ, List.set_cons_zero]
  refine wpFl_yes _ _ _ _ rfl (by kernel_rfl) (fun ω hj => by first | (go_simp; rfl) | (obtain ⟨f1, f2⟩ := HF.out ω (hj rfl); go_simp; rfl)) ?_
  simp only [List.getElem_toArray, List.getElem_cons_succ, List.getElem_cons_zero, Act.put, List.setIfInBounds_toArray, List.set_cons_succ, List.set_cons_zero]
  refine wpFl_yes _ _ _ _ rfl (by kernel_rfl) (fun ω hj => by first | (go_simp; rfl) | (obtain ⟨f1, f2⟩ := HF.out ω (hj rfl); go_simp; rfl)) ?_
  simp only [List.getElem_toArray, List.getElem_cons_succ, List.getElem_cons_zero, Act.put, List.setIfInBounds_toArray, List.set_cons_succ, List.set_cons_zero]
  refine wpFl_nil _ _ ?_
  refine wpCh_one _ _ _ _ rfl ?_
  simp only [List.getElem_toArray, List.getElem_cons_succ, List.getElem_cons_zero, Act.put, List.setIfInBounds_toArray, List.set_cons_succ, List.set_cons_zero]
  go_wp2_with fail
  refine (CC.out _ HJ0.out).mono ?_
  rintro e v1 ⟨nb, rfl, hj, hc⟩
  have HJ1 := hid_of hj
  have HC := hid_of hc
  clear hj hc
  go_wp2_with fail
  refine ⟨HJ1.out, ?_⟩
  refine wpCh_rest _ _ _ _ [_, _] _ _ rfl (by kernel_rfl) ?_
  simp only [List.getElem_toArray, List.getElem_cons_succ, List.getElem_cons_zero, Act.put, List.setIfInBounds_toArray, List.set_cons_succ, List.set_cons_zero]
  go_wp2_with fail
  refine HC.out.mono ?_
  rintro e v2 ⟨ga, gn, gc, ms, rfl, hp⟩
  have HP := hid_of hp
  clear hp
  go_wp2_with fail
  exact HKR.out _ _ ga gn gc ms (by kernel_rfl) HP.out
set_option linter.unusedVariables false in
set_option linter.unusedSimpArgs false in
set_option maxRecDepth 100000 in
set_option maxHeartbeats 16000000 in
theorem reg25_1 (rg : Nat) (dv : Bool) (ga : Option Addr) (gn gc : Nat) (ms : Int) (PV : Option Addr → Nat → Nat → Int → World → Prop)
    (ops : Array Oper) (hops : (Try.f3.body.bind (findR 25)).getD .skip = .region 25 ops true) (Q : Act → World → Prop)
    (HKR : Hid (∀ (act : Act) (w' : World) (ga : Option Addr) (gn gc : Nat) (ms : Int), act = fr3m rg dv ga gn gc ms (fun i => act.tmps.getD i undef) → PV ga gn gc ms w' → Q act w'))
    (u : Nat → Value) (v1 : World) (HP : Hid (PV ga gn gc ms v1)) : wpA0 Q Try.prog ops 4 (setAll (setAll (Array.replicate ops.size false) [0, 1, 2, 3, 5, 6, 7, 8]) [4, 9, 10]) (fr3q1 rg dv ga gn gc ms u) v1 := by
  conv at hops => lhs; whnf
  injection hops with _ ho _
  subst ho
  unfold fr3q1
  refine wpA0_fl [11, 12] [13, 14] [11, 12] 0 (fun ω => True) rfl (by kernel_rfl) (by kernel_rfl) (by kernel_rfl) (by kernel_rfl) (by kernel_rfl) trivial ?_
  refine wpFl_yes _ _ _ _ rfl (by kernel_rfl) (fun ω hj => by go_simp; rfl) ?_
  simp only [List.getElem_toArray, List.getElem_cons_succ, List.getElem_cons_zero, Act.put, List.setIfInBounds_toArray, List.set_cons_succ, List.set_cons_zero]
  refine wpFl_yes _ _ _ _ rfl (by kernel_rfl) (fun ω hj => by go_simp; rfl) ?_
  simp only [List.getElem_toArray, List.getElem_cons_succ, List.getElem_cons_zero, Act.put, List.setIfInBounds_toArray, List.set_cons_succ, List.set_cons_zero]
  refine wpFl_nil _ _ ?_
  refine wpCh_rest _ _ _ _ [_, _] _ _ rfl (by kernel_rfl) ?_
  simp only [List.getElem_toArray, List.getElem_cons_succ, List.getElem_cons_zero, Act.put, List.setIfInBounds_toArray, List.set_cons_succ, List.set_cons_zero]
  go_wp2_with fail
  refine wpA0_end (by kernel_rfl) ?_
  exact HKR.out _ _ ga gn gc ms (by kernel_rfl) HP.out
set_option linter.unusedVariables false in
set_option linter.unusedSimpArgs false in
set_option maxRecDepth 100000 in
set_option maxHeartbeats 16000000 in
theorem reg25 (rg im : Nat) (dv : Bool) (desc : Int) (WZ : World) (PV : Option Addr → Nat → Nat → Int → World → Prop)
    (HF : Hid (∀ ω, Below WZ.heap.size WZ ω → ω.cell? ⟨rg, 1, none⟩ = some (.map (some im)) ∧ ω.cell? ⟨rg, 19, none⟩ = some (.int .u32 desc)))
    (CC : Hid (∀ ω, Below WZ.heap.size WZ ω → Calls Try.prog 26 #[.map (some im)] ω fun e w' => ∃ nb, e = .returned (.map (some nb)) ∧ Below WZ.heap.size WZ w' ∧ Calls Try.prog 25 #[.map (some nb), .int .u32 desc] w' fun e w2 => ∃ (ga : Option Addr) (gn gc : Nat) (ms : Int), e = .returned (.tuple #[.slice ga gn gc, .int .u8 ms]) ∧ PV ga gn gc ms w2))
    (KR : Act → World → Prop) (HKR : Hid (∀ (act : Act) (w' : World) (ga : Option Addr) (gn gc : Nat) (ms : Int), act = fr3m rg dv ga gn gc ms (fun i => act.tmps.getD i undef) → PV ga gn gc ms w' → KR act w')) (Q0 : Exit → Act → World → Prop)
    (code : Code) (hcode : code = (Try.f3.body.bind (findR 25)).getD .skip) (u : Nat → Value) : code.wp Try.prog (Exit.then KR Q0) (fr3q rg dv u) WZ := by
  obtain ⟨l, hl⟩ : ∃ l : List Oper, code = .region 25 l.toArray true := ⟨_, by rw [hcode]; rfl⟩
  have hops := hcode.symm.trans hl
  rw [hl]
  have hlen : 15 = l.length := by
    rw [hcode] at hl
    conv at hl => lhs; whnf
    injection hl with _ ho _
    exact (congrArg Array.size ho).trans (List.size_toArray ..)
  refine wp_region_stages mixed 15 hlen ?_
  refine reg25_0 rg im dv desc WZ PV HF CC l.toArray hops _ ?_ u _ ⟨rfl, rfl, rfl, Nat.le_refl _, fun _ _ => rfl⟩
  intro a1 v1 ga gn gc ms h1 k1
  rw [h1]
  refine reg25_1 rg dv ga gn gc ms PV l.toArray hops _ ?_ _ _ (hid_of k1)
  intro a2 v2 ga2 gn2 gc2 ms2 h2 k2
  exact HKR.out _ _ _ _ _ _ h2 k2
end Go.Proofs.Qxb6500749a
