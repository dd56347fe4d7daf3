import Derived.Test.Qxb6500749aMs6
namespace Go.Proofs.Qxb6500749a
open Go.RowKit
attribute [local go_sem] put_size put_cell_same put_cell_ne put_frozen_same put_frozen_ne put_setCell_same put_setCell_ne put_drew
attribute [local go_sem] drewN_setCell drewN_alloc drewN_put
/-! ### The interpreter's step: a store -/
set_option maxRecDepth 100000 in
def fr15s (b rd : Nat) (tb : Nat) (u : Nat → Value) : Act :=
  { tmps := ((.pointer (some ⟨b, 0, none⟩)) :: (u 1) :: (u 2) :: (.int .u32 (rd : Nat)) :: (u 4) :: (u 5) :: (u 6) :: (u 7) :: (u 8) :: (u 9) :: (u 10) :: (u 11) :: (.pointer (some ⟨tb, 0, none⟩)) :: (u 13) :: (u 14) :: (u 15) :: (u 16) :: (u 17) :: (u 18) :: (u 19) :: (u 20) :: (u 21) :: (u 22) :: (u 23) :: (u 24) :: (u 25) :: (u 26) :: (u 27) :: (u 28) :: (u 29) :: (u 30) :: (u 31) :: (u 32) :: (u 33) :: (u 34) :: (u 35) :: (u 36) :: (u 37) :: (u 38) :: (u 39) :: (u 40) :: (u 41) :: (u 42) :: (u 43) :: (u 44) :: (u 45) :: (u 46) :: (u 47) :: (u 48) :: (u 49) :: (u 50) :: (u 51) :: (u 52) :: (u 53) :: (u 54) :: (u 55) :: (u 56) :: (u 57) :: (u 58) :: (u 59) :: (u 60) :: (u 61) :: (u 62) :: (u 63) :: (u 64) :: (u 65) :: (u 66) :: (u 67) :: (u 68) :: (u 69) :: (u 70) :: (u 71) :: (u 72) :: (u 73) :: (u 74) :: (u 75) :: (u 76) :: (u 77) :: (u 78) :: (u 79) :: (u 80) :: (u 81) :: (u 82) :: (u 83) :: (u 84) :: (u 85) :: (u 86) :: (u 87) :: (u 88) :: (u 89) :: (u 90) :: (u 91) :: (u 92) :: (u 93) :: (u 94) :: (u 95) :: (u 96) :: (u 97) :: (u 98) :: (u 99) :: (u 100) :: (u 101) :: (u 102) :: (u 103) :: (u 104) :: (u 105) :: (u 106) :: (u 107) :: (u 108) :: (u 109) :: (u 110) :: (u 111) :: (u 112) :: (u 113) :: (u 114) :: (u 115) :: (u 116) :: (u 117) :: (u 118) :: (u 119) :: (u 120) :: (u 121) :: (u 122) :: (u 123) :: (u 124) :: (u 125) :: (u 126) :: (u 127) :: (u 128) :: (u 129) :: (u 130) :: (u 131) :: (u 132) :: (u 133) :: (u 134) :: (u 135) :: (u 136) :: (u 137) :: (u 138) :: (u 139) :: (u 140) :: (u 141) :: (u 142) :: (u 143) :: (u 144) :: (u 145) :: (u 146) :: (u 147) :: (u 148) :: (u 149) :: (u 150) :: (u 151) :: (u 152) :: (u 153) :: (u 154) :: (u 155) :: (u 156) :: (u 157) :: (u 158) :: (u 159) :: (u 160) :: (u 161) :: (u 162) :: (u 163) :: (u 164) :: (u 165) :: (u 166) :: (u 167) :: (u 168) :: (u 169) :: (u 170) :: (u 171) :: (u 172) :: (u 173) :: (u 174) :: (u 175) :: (u 176) :: (u 177) :: (u 178) :: (u 179) :: (u 180) :: (u 181) :: (u 182) :: (u 183) :: (u 184) :: (u 185) :: (u 186) :: (u 187) :: (u 188) :: (u 189) :: (u 190) :: (u 191) :: (u 192) :: (u 193) :: (u 194) :: (u 195) :: (u 196) :: (u 197) :: (u 198) :: (u 199) :: (u 200) :: (u 201) :: (u 202) :: (u 203) :: (u 204) :: (u 205) :: (u 206) :: (u 207) :: (u 208) :: (u 209) :: (u 210) :: (u 211) :: (u 212) :: (u 213) :: (u 214) :: (u 215) :: (u 216) :: (u 217) :: (u 218) :: (u 219) :: (u 220) :: (u 221) :: (u 222) :: (u 223) :: (u 224) :: (u 225) :: (u 226) :: (u 227) :: (u 228) :: (u 229) :: (u 230) :: (u 231) :: (u 232) :: (u 233) :: (u 234) :: (u 235) :: (u 236) :: (u 237) :: (u 238) :: (u 239) :: (u 240) :: (u 241) :: (u 242) :: (u 243) :: (u 244) :: (u 245) :: (u 246) :: (u 247) :: (u 248) :: (u 249) :: (u 250) :: (u 251) :: (u 252) :: (u 253) :: (u 254) :: (u 255) :: (u 256) :: (u 257) :: (u 258) :: (u 259) :: (u 260) :: (u 261) :: (u 262) :: (u 263) :: (u 264) :: (u 265) :: (u 266) :: (u 267) :: (u 268) :: (u 269) :: (u 270) :: (u 271) :: (u 272) :: (u 273) :: (u 274) :: (u 275) :: (u 276) :: (u 277) :: (u 278) :: (u 279) :: (u 280) :: (u 281) :: (u 282) :: (u 283) :: (u 284) :: (u 285) :: (u 286) :: (u 287) :: (u 288) :: (u 289) :: (u 290) :: (u 291) :: (u 292) :: (u 293) :: (u 294) :: (u 295) :: (u 296) :: (u 297) :: (u 298) :: (u 299) :: (u 300) :: (u 301) :: (u 302) :: (u 303) :: (u 304) :: (u 305) :: (u 306) :: (u 307) :: (u 308) :: (u 309) :: (u 310) :: (u 311) :: (u 312) :: (u 313) :: (u 314) :: (u 315) :: (u 316) :: (u 317) :: (u 318) :: (u 319) :: (u 320) :: (u 321) :: (u 322) :: (u 323) :: (u 324) :: (u 325) :: (u 326) :: (u 327) :: (u 328) :: (u 329) :: (u 330) :: (u 331) :: (u 332) :: (u 333) :: (u 334) :: (u 335) :: (u 336) :: (u 337) :: (u 338) :: (u 339) :: (u 340) :: (u 341) :: (u 342) :: (u 343) :: (u 344) :: (u 345) :: (u 346) :: (u 347) :: (u 348) :: (u 349) :: (u 350) :: (u 351) :: (u 352) :: (u 353) :: (u 354) :: (u 355) :: (u 356) :: (u 357) :: (u 358) :: (u 359) :: (u 360) :: (u 361) :: (u 362) :: (u 363) :: (u 364) :: (u 365) :: (u 366) :: (u 367) :: (u 368) :: (u 369) :: (u 370) :: (u 371) :: (u 372) :: (u 373) :: (u 374) :: (u 375) :: (u 376) :: [] : List Value).toArray, defers := [] }
set_option linter.unusedVariables false in
set_option linter.unusedSimpArgs false in
set_option maxRecDepth 100000 in
set_option maxHeartbeats 16000000 in
theorem mst7 (b mm : Nat) (pa : Option Addr) (pn pcap : Nat) (ga : Option Addr) (gn gc : Nat) (prog : List Int) (M : IM) (hM : M.Ok) (hpl : prog.length = pn) (hpn : pn ≤ 64) (hpw : ∀ x ∈ prog, W32 x) (hg : M.log.length = gn) (hgn : gn < 1000000000) (hh : M.hal = false) (ht : M.tra = false) (hop : (decF (fetF prog M.pc)).op = 18) (w : World) (h : MR w b mm (.slice pa pn pcap) (.slice ga gn gc) prog M) :
    Calls Try.prog 15 #[.pointer (some ⟨b, 0, none⟩)] w fun e w' => e = .returned (.tuple #[]) ∧ MPost w b mm (.slice pa pn pcap) (.slice ga gn gc) prog (itI M (decF (fetF prog M.pc))) w' := by
  obtain ⟨u9, hu9, hl9⟩ := h.blk.out
  subst hu9
  have hlt : M.pc < (pn : Nat) := by
    by_cases q : M.pc < (pn : Nat)
    · exact q
    · exfalso
      have e : fetF prog M.pc = 4294967295 := by unfold fetF; rw [hpl, if_neg q]
      rw [e] at hop
      have : (decF 4294967295).op = 255 := rfl
      rw [this] at hop
      omega
  have hp0 := hM.pc.1
  obtain ⟨p, hpp⟩ : ∃ p : Nat, M.pc = (p : Nat) := Int.eq_ofNat_of_zero_le hp0
  have hpn2 : p < pn := by omega
  obtain ⟨pb, po, pc', epa, _, hpbl⟩ := h.prog.form (by omega)
  injection epa with epa e2 e3
  subst epa
  subst e3
  obtain ⟨x, hx⟩ : ∃ x, fetF prog M.pc = x := ⟨_, rfl⟩
  have hxx := fet_at (prog := prog) (p := p) (by omega) hpw
  rw [← hpp, hx] at hxx
  have cx : (put u9 b (mV (.slice (some ⟨pb, po, none⟩) pn pcap) mm M (.slice ga gn gc)) 46).cell? ⟨pb, po + p, none⟩ = some (.int .u32 x) := by
    rw [h.prog.cell rfl p (by simp [prow]; omega)]
    unfold prow
    rw [List.getElem?_map, hxx.1]
    rfl
  rw [hx] at hop ⊢
  have hxw := hxx.2
  have hx0 := hxw.1
  have hx1 := hxw.2
  obtain ⟨rd, hrd⟩ : ∃ rd, (decF x).rd = rd := ⟨_, rfl⟩
  obtain ⟨ra, hra⟩ : ∃ ra, (decF x).ra = ra := ⟨_, rfl⟩
  obtain ⟨rb, hrb⟩ : ∃ rb, (decF x).rb = rb := ⟨_, rfl⟩
  have hrd' : (x / 1048576 % 16).toNat = rd := hrd
  have hra' : (x / 65536 % 16).toNat = ra := hra
  have hrb' : (x / 4096 % 16).toNat = rb := hrb
  have q1 : x.tdiv 1048576 = x / 1048576 := Int.tdiv_eq_ediv_of_nonneg hx0
  have q2 : x.tdiv 65536 = x / 65536 := Int.tdiv_eq_ediv_of_nonneg hx0
  have q3 : x.tdiv 4096 = x / 4096 := Int.tdiv_eq_ediv_of_nonneg hx0
  have q4 : x.tdiv 16777216 = x / 16777216 := Int.tdiv_eq_ediv_of_nonneg hx0
  have r1 : (x / 1048576) % 4294967296 = x / 1048576 := by omega
  have r2 : (x / 65536) % 4294967296 = x / 65536 := by omega
  have r3 : (x / 4096) % 4294967296 = x / 4096 := by omega
  have m1 : (x / 1048576).tmod 16 = ((rd : Nat) : Int) := by rw [Int.tmod_eq_emod_of_nonneg (by omega)]; omega
  have m2 : (x / 65536).tmod 16 = ((ra : Nat) : Int) := by rw [Int.tmod_eq_emod_of_nonneg (by omega)]; omega
  have m3 : (x / 4096).tmod 16 = ((rb : Nat) : Int) := by rw [Int.tmod_eq_emod_of_nonneg (by omega)]; omega
  have k1 : ((rd : Nat) : Int) % 4294967296 = ((rd : Nat) : Int) := by omega
  have k2 : ((ra : Nat) : Int) % 4294967296 = ((ra : Nat) : Int) := by omega
  have k3 : ((rb : Nat) : Int) % 4294967296 = ((rb : Nat) : Int) := by omega
  have l1 : ((rd : Nat) : Int) < 16 := by omega
  have l2 : ((ra : Nat) : Int) < 16 := by omega
  have l3 : ((rb : Nat) : Int) < 16 := by omega
  have HRD : Hid (rd < 16 ∧ ra < 16 ∧ rb < 16) := ⟨by omega, by omega, by omega⟩
  obtain ⟨i12, hi12⟩ : ∃ i, (decF x).i12 = i := ⟨_, rfl⟩
  obtain ⟨i16, hi16⟩ : ∃ i, (decF x).i16 = i := ⟨_, rfl⟩
  have HS12 : Hid (∀ q : World, Calls Try.prog 37 #[.int .u32 x, .int .i64 12] q fun e w' => e = .returned (.int .u32 i12) ∧ w' = q) := fun q => by rw [← hi12]; exact signed12 x hxw q
  have HS16 : Hid (∀ q : World, Calls Try.prog 37 #[.int .u32 x, .int .i64 16] q fun e w' => e = .returned (.int .u32 i16) ∧ w' = q) := fun q => by rw [← hi16]; exact signed16 x hxw q
  have hia : (2 + ra) = (2 + ra) := rfl
  have HMV : Hid (mV (.slice (some ⟨pb, po, none⟩) pn pcap) mm M (.slice ga gn gc) = #[.slice (some ⟨pb, po, none⟩) pn pcap, .map (some mm), .int .u32 (M.r 0), .int .u32 (M.r 1), .int .u32 (M.r 2), .int .u32 (M.r 3), .int .u32 (M.r 4), .int .u32 (M.r 5), .int .u32 (M.r 6), .int .u32 (M.r 7), .int .u32 (M.r 8), .int .u32 (M.r 9), .int .u32 (M.r 10), .int .u32 (M.r 11), .int .u32 (M.r 12), .int .u32 (M.r 13), .int .u32 (M.r 14), .int .u32 (M.r 15), .int .u32 M.pc, .bool false, .bool false, .slice ga gn gc]) := by unfold Hid mV; rw [hh, ht]
  obtain ⟨va, hva⟩ : ∃ va, M.r ra = va := ⟨_, rfl⟩
  obtain ⟨vb, hvb⟩ : ∃ vb, M.r rb = vb := ⟨_, rfl⟩
  have ga1 : (#[.slice (some ⟨pb, po, none⟩) pn pcap, .map (some mm), .int .u32 (M.r 0), .int .u32 (M.r 1), .int .u32 (M.r 2), .int .u32 (M.r 3), .int .u32 (M.r 4), .int .u32 (M.r 5), .int .u32 (M.r 6), .int .u32 (M.r 7), .int .u32 (M.r 8), .int .u32 (M.r 9), .int .u32 (M.r 10), .int .u32 (M.r 11), .int .u32 (M.r 12), .int .u32 (M.r 13), .int .u32 (M.r 14), .int .u32 (M.r 15), .int .u32 M.pc, .bool false, .bool false, .slice ga gn gc] : Array Value)[2 + ra]? = some (.int .u32 va) := by rw [← HMV.out, mV_reg _ _ _ _ _ HRD.out.2.1, hva]
  have gb1 : (#[.slice (some ⟨pb, po, none⟩) pn pcap, .map (some mm), .int .u32 (M.r 0), .int .u32 (M.r 1), .int .u32 (M.r 2), .int .u32 (M.r 3), .int .u32 (M.r 4), .int .u32 (M.r 5), .int .u32 (M.r 6), .int .u32 (M.r 7), .int .u32 (M.r 8), .int .u32 (M.r 9), .int .u32 (M.r 10), .int .u32 (M.r 11), .int .u32 (M.r 12), .int .u32 (M.r 13), .int .u32 (M.r 14), .int .u32 (M.r 15), .int .u32 M.pc, .bool false, .bool false, .slice ga gn gc] : Array Value)[2 + rb]? = some (.int .u32 vb) := by rw [← HMV.out, mV_reg _ _ _ _ _ HRD.out.2.2, hvb]
  have HMR := hid_of h
  have HFIN : Hid (∀ (n : Nat) (cs' : Array Value) (M' : IM), cs' = mV (.slice (some ⟨pb, po, none⟩) pn pcap) mm M' (.slice ga gn gc) → M'.m = M.m → M'.log = M.log → MPost (put u9 b #[.slice (some ⟨pb, po, none⟩) pn pcap, .map (some mm), .int .u32 (M.r 0), .int .u32 (M.r 1), .int .u32 (M.r 2), .int .u32 (M.r 3), .int .u32 (M.r 4), .int .u32 (M.r 5), .int .u32 (M.r 6), .int .u32 (M.r 7), .int .u32 (M.r 8), .int .u32 (M.r 9), .int .u32 (M.r 10), .int .u32 (M.r 11), .int .u32 (M.r 12), .int .u32 (M.r 13), .int .u32 (M.r 14), .int .u32 (M.r 15), .int .u32 M.pc, .bool false, .bool false, .slice ga gn gc] 46) b mm (.slice (some ⟨pb, po, none⟩) pn pcap) (.slice ga gn gc) prog M' ((put u9 b cs' 46).drewN n)) := fun n cs' M' e1 e2 e3 => by rw [← HMV.out]; exact mrow HMR.out n cs' M' e1 e2 e3
  have HD : Hid (decF x = ⟨(decF x).op, rd, ra, rb, i12, i16⟩) := by unfold Hid; rw [← hrd, ← hra, ← hrb, ← hi12, ← hi16]
  have HV : Hid (M.r ra = va ∧ M.r rb = vb) := ⟨hva, hvb⟩
  have HHT : Hid (M.hal = false ∧ M.tra = false) := ⟨hh, ht⟩
  have HWV : Hid (W32 va ∧ W32 vb) := ⟨by rw [← hva]; exact hM.r _, by rw [← hvb]; exact hM.r _⟩
  have hopx : (decF x).op = x / 16777216 := rfl
  obtain ⟨op, hope⟩ : ∃ op, (decF x).op = op := ⟨_, rfl⟩
  have q4' : x / 16777216 = op := by rw [← hope]; rfl
  rw [hope] at hop HD
  rw [HD.out]
  rw [HMV.out] at cx ⊢
  have hpw2 : IntKind.i64.wrap M.pc = M.pc := by rw [hpp]; simp [IntKind.wrap, IntKind.bits, IntKind.signed]; omega
  rw [hpp] at hlt
  obtain ⟨pcv, hpcv⟩ : ∃ v, M.pc = v := ⟨_, rfl⟩
  have HPC : Hid (M.pc = (p : Nat)) := hpp
  have HLL : Hid (p < pn) := hpn2
  have HGN : Hid (M.log.length = gn ∧ gn < 1000000000) := ⟨hg, hgn⟩
  have HMO : Hid (∀ a, W32 (M.m a)) := hM.m
  clear h hxx hxw hx0 hx1 hrd' hra' hrb' hrd hra hrb hi12 hi16 hva hvb hia hpl hpw hg hgn hM hp0 e2 hx hope hopx hpcv hpw2
  have hlt2 : ((p : Nat) : Int) < (pn : Nat) := hlt
  have hpw3 : IntKind.i64.wrap ((p : Nat) : Int) = ((p : Nat) : Int) := by have := HLL.out; simp [IntKind.wrap, IntKind.bits, IntKind.signed]; omega
  rw [HPC.out] at ga1 gb1 HFIN cx ⊢
  go_enter Try.func15, Try.ntmps15
  go_upto_region 2 with fail
  go_quiet (fail)
  go_upto_region 3 with fail
  go_quiet (fail)
  go_upto_region 5 with fail
  go_quiet (fail)
  go_upto_region 6 with fail
  clear cx ga1 gb1 hlt hlt2 hpw3
  go_wp2_with fail
  refine (HS12.out _).mono ?_
  rintro e w1 ⟨rfl, hw1⟩
  obtain rfl := hw1.symm
  clear hw1 HS12
  go_wp2_with fail
  refine (HS16.out _).mono ?_
  rintro e w1 ⟨rfl, hw1⟩
  obtain rfl := hw1.symm
  clear hw1 HS16
  have hinc : (((p : Nat) : Int) + 1) % 4294967296 = ((p : Nat) : Int) + 1 := by have := HLL.out; omega
  have hopw : op % 256 = op := by rcases hop with hop <;> omega
  have hopw2 : op % 4294967296 = op := by rcases hop with hop <;> omega
  obtain ⟨pc1, hpc1⟩ : ∃ v, ((p : Nat) : Int) + 1 = v := ⟨_, rfl⟩
  have HPC1 : Hid ((M.pc + 1) % 4294967296 = pc1) := by unfold Hid; rw [HPC.out, hinc]; exact hpc1
  have HP1 : Hid (((p : Nat) : Int) + 1 = pc1) := hpc1
  subst hop
  go_upto_region 9 with fail
  refine cutM (Km := fun act wd => ∃ (u : Nat → Value) (n : Nat), act = fr15 b x rd va i12 p 18 u ∧ wd = (put u9 b #[.slice (some ⟨pb, po, none⟩) pn pcap, .map (some mm), .int .u32 (M.r 0), .int .u32 (M.r 1), .int .u32 (M.r 2), .int .u32 (M.r 3), .int .u32 (M.r 4), .int .u32 (M.r 5), .int .u32 (M.r 6), .int .u32 (M.r 7), .int .u32 (M.r 8), .int .u32 (M.r 9), .int .u32 (M.r 10), .int .u32 (M.r 11), .int .u32 (M.r 12), .int .u32 (M.r 13), .int .u32 (M.r 14), .int .u32 (M.r 15), .int .u32 pc1, .bool false, .bool false, .slice ga gn gc] 46).drewN n) ?rest ?first
  case first =>
    obtain ⟨KR, hKR⟩ : ∃ KR : Act → World → Prop, KR = fun act wd => ∃ (u : Nat → Value) (n : Nat), act = fr15 b x rd va i12 p 18 u ∧ wd = (put u9 b #[.slice (some ⟨pb, po, none⟩) pn pcap, .map (some mm), .int .u32 (M.r 0), .int .u32 (M.r 1), .int .u32 (M.r 2), .int .u32 (M.r 3), .int .u32 (M.r 4), .int .u32 (M.r 5), .int .u32 (M.r 6), .int .u32 (M.r 7), .int .u32 (M.r 8), .int .u32 (M.r 9), .int .u32 (M.r 10), .int .u32 (M.r 11), .int .u32 (M.r 12), .int .u32 (M.r 13), .int .u32 (M.r 14), .int .u32 (M.r 15), .int .u32 pc1, .bool false, .bool false, .slice ga gn gc] 46).drewN n := ⟨_, rfl⟩
    have HKR : Hid (∀ (act : Act) (n : Nat), act = fr15 b x rd va i12 p 18 (fun i => act.tmps.getD i undef) → KR act ((put u9 b #[.slice (some ⟨pb, po, none⟩) pn pcap, .map (some mm), .int .u32 (M.r 0), .int .u32 (M.r 1), .int .u32 (M.r 2), .int .u32 (M.r 3), .int .u32 (M.r 4), .int .u32 (M.r 5), .int .u32 (M.r 6), .int .u32 (M.r 7), .int .u32 (M.r 8), .int .u32 (M.r 9), .int .u32 (M.r 10), .int .u32 (M.r 11), .int .u32 (M.r 12), .int .u32 (M.r 13), .int .u32 (M.r 14), .int .u32 (M.r 15), .int .u32 pc1, .bool false, .bool false, .slice ga gn gc] 46).drewN n)) := fun act n e => by rw [hKR]; exact ⟨_, n, e, rfl⟩
    rw [← hKR]
    clear hKR
    go_wp2_with fail
    exact HKR.out _ _ (by kernel_rfl)
  case rest =>
  clear q1 q2 q3 q4 r1 r2 r3 m1 m2 m3 hopw hopw2 q4' hpc1 hinc
  rintro act wd ⟨u, n, rfl, hwd⟩
  have HMW : Hid (MR wd b mm (.slice (some ⟨pb, po, none⟩) pn pcap) (.slice ga gn gc) prog { M with pc := pc1 } ∧ Fr (KM b mm (.slice ga gn gc)) (put u9 b #[.slice (some ⟨pb, po, none⟩) pn pcap, .map (some mm), .int .u32 (M.r 0), .int .u32 (M.r 1), .int .u32 (M.r 2), .int .u32 (M.r 3), .int .u32 (M.r 4), .int .u32 (M.r 5), .int .u32 (M.r 6), .int .u32 (M.r 7), .int .u32 (M.r 8), .int .u32 (M.r 9), .int .u32 (M.r 10), .int .u32 (M.r 11), .int .u32 (M.r 12), .int .u32 (M.r 13), .int .u32 (M.r 14), .int .u32 (M.r 15), .int .u32 ((p : Nat) : Int), .bool false, .bool false, .slice ga gn gc] 46) wd) := by
    have e1 : (#[.slice (some ⟨pb, po, none⟩) pn pcap, .map (some mm), .int .u32 (M.r 0), .int .u32 (M.r 1), .int .u32 (M.r 2), .int .u32 (M.r 3), .int .u32 (M.r 4), .int .u32 (M.r 5), .int .u32 (M.r 6), .int .u32 (M.r 7), .int .u32 (M.r 8), .int .u32 (M.r 9), .int .u32 (M.r 10), .int .u32 (M.r 11), .int .u32 (M.r 12), .int .u32 (M.r 13), .int .u32 (M.r 14), .int .u32 (M.r 15), .int .u32 pc1, .bool false, .bool false, .slice ga gn gc] : Array Value) = mV (.slice (some ⟨pb, po, none⟩) pn pcap) mm { M with pc := pc1 } (.slice ga gn gc) := by unfold mV; rw [HHT.out.1, HHT.out.2]
    have e2 : (#[.slice (some ⟨pb, po, none⟩) pn pcap, .map (some mm), .int .u32 (M.r 0), .int .u32 (M.r 1), .int .u32 (M.r 2), .int .u32 (M.r 3), .int .u32 (M.r 4), .int .u32 (M.r 5), .int .u32 (M.r 6), .int .u32 (M.r 7), .int .u32 (M.r 8), .int .u32 (M.r 9), .int .u32 (M.r 10), .int .u32 (M.r 11), .int .u32 (M.r 12), .int .u32 (M.r 13), .int .u32 (M.r 14), .int .u32 (M.r 15), .int .u32 ((p : Nat) : Int), .bool false, .bool false, .slice ga gn gc] : Array Value) = mV (.slice (some ⟨pb, po, none⟩) pn pcap) mm M (.slice ga gn gc) := by unfold mV; rw [HHT.out.1, HHT.out.2, HPC.out]
    have h9 := HMR.out.row { M with pc := pc1 } rfl rfl
    rw [put_put] at h9
    have f9 := (Fr.refl (KM b mm (.slice ga gn gc)) (put u9 b (mV (.slice (some ⟨pb, po, none⟩) pn pcap) mm M (.slice ga gn gc)) 46)).put (b := b) (fun _ => .inl rfl) (mV (.slice (some ⟨pb, po, none⟩) pn pcap) mm { M with pc := pc1 } (.slice ga gn gc)) 46
    rw [put_put] at f9
    rw [hwd, e1, e2]
    exact ⟨h9.below ⟨rfl, rfl, rfl, Nat.le_refl _, fun _ _ => rfl⟩, f9.drewN n⟩
  obtain ⟨w0, hw0⟩ : ∃ w0, put u9 b #[.slice (some ⟨pb, po, none⟩) pn pcap, .map (some mm), .int .u32 (M.r 0), .int .u32 (M.r 1), .int .u32 (M.r 2), .int .u32 (M.r 3), .int .u32 (M.r 4), .int .u32 (M.r 5), .int .u32 (M.r 6), .int .u32 (M.r 7), .int .u32 (M.r 8), .int .u32 (M.r 9), .int .u32 (M.r 10), .int .u32 (M.r 11), .int .u32 (M.r 12), .int .u32 (M.r 13), .int .u32 (M.r 14), .int .u32 (M.r 15), .int .u32 ((p : Nat) : Int), .bool false, .bool false, .slice ga gn gc] 46 = w0 := ⟨_, rfl⟩
  rw [hw0] at HMW
  have HW0 := hid_of hw0
  have HLT : Hid (∀ k, (KM b mm (.slice ga gn gc)) k → k < w0.heap.size) := fun k hk => by
    have hsz : w0.heap.size = (put u9 b (mV (.slice (some ⟨pb, po, none⟩) pn pcap) mm M (.slice ga gn gc)) 46).heap.size := by rw [← hw0, put_size, put_size]
    rw [hsz]
    rcases hk with rfl | rfl | hk
    · exact HMR.out.blk.lt
    · exact HMR.out.map.lt
    · exact HMR.out.log.lt k hk
  clear hwd hw0
  unfold fr15
  have c1 : wd.cell? ⟨b, 1, none⟩ = some (.map (some mm)) := HMW.out.1.blk.cell 1
  obtain ⟨ad, had⟩ : ∃ ad, (va + i12) % 4294967296 = ad := ⟨_, rfl⟩
  have HAD := hid_of had
  have HWA : Hid (W32 ad) := by rw [← had]; exact W32.emod _
  obtain ⟨i0, hinf, hz0, hz1, hz2⟩ := info_parts info68
  obtain ⟨dv, hdv⟩ : ∃ dv, M.r rd = dv := ⟨_, rfl⟩
  cases hm : mapF ad
  · obtain ⟨mw, hmw⟩ : ∃ mw, accM M.m true ad dv = mw := ⟨_, rfl⟩
    have hT : accT M.m true ad dv = ⟨true, ad, dv, true, 0⟩ := by unfold accT; rw [hm]; simp
    have HIT : Hid (itI M ⟨18, rd, ra, rb, i12, i16⟩ = { M with m := mw, pc := pc1, tra := true, log := M.log ++ [⟨true, ad, dv, true, 0⟩] }) := by
      unfold Hid itI
      simp only []
      rw [HPC1.out, HV.out.1, HAD.out, hdv, hT, hmw, hm]
      simp
    have HACC : Hid (∀ W : World, MapB W mm M.m → Calls Try.prog 39 #[.map (some mm), .agg #[.bool true, .int .u32 ad, .int .u32 dv]] W fun e w' => e = .returned (.agg #[.bool true, .int .u32 ad, .int .u32 dv, .bool true, .int .u32 0]) ∧ MapB w' mm mw ∧ Fr (· = mm) W w') := fun W hW => by
      have := access_any mm M.m true ad dv HWA.out W hW
      rw [hT, hmw] at this
      exact this
    have HDV := hid_of hdv
    have HMD : Hid (MR wd.drew b mm (.slice (some ⟨pb, po, none⟩) pn pcap) (.slice ga gn gc) prog { M with pc := pc1 } ∧ Fr (KM b mm (.slice ga gn gc)) w0 wd.drew) := ⟨HMW.out.1.below ⟨rfl, rfl, rfl, Nat.le_refl _, fun _ _ => rfl⟩, HMW.out.2.drew⟩
    have HJJ : Hid (∀ (W : World) (m' : Int → Int), MR W b mm (.slice (some ⟨pb, po, none⟩) pn pcap) (.slice ga gn gc) prog { M with pc := pc1, m := m' } → W.cell? ⟨b, 1, none⟩ = some (.map (some mm)) ∧ W.cell? ⟨b, 2 + rd, none⟩ = some (.int .u32 dv)) := fun W m' h => ⟨h.blk.cell 1, by
      have h9 := h.blk.cell (2 + rd)
      rw [mV_reg _ _ _ _ _ HRD.out.1] at h9
      rw [← HDV.out]
      exact h9⟩
    clear hT hm hmw hdv c1
    go_upto_region 51 with fail
    refine cutM (Km := fun act W3 => ∃ (u : Nat → Value) (tb : Nat), act = fr15s b rd tb u ∧ Hid (MR W3 b mm (.slice (some ⟨pb, po, none⟩) pn pcap) (.slice ga gn gc) prog { M with pc := pc1, m := mw } ∧ Fr (KM b mm (.slice ga gn gc)) w0 W3 ∧ Blk W3 tb #[.bool true, .int .u32 ad, .int .u32 dv, .bool true, .int .u32 0] 68 ∧ w0.heap.size ≤ tb)) ?rest0 ?first0
    case first0 =>
      obtain ⟨KR, hKR⟩ : ∃ KR : Act → World → Prop, KR = fun act W3 => ∃ (u : Nat → Value) (tb : Nat), act = fr15s b rd tb u ∧ Hid (MR W3 b mm (.slice (some ⟨pb, po, none⟩) pn pcap) (.slice ga gn gc) prog { M with pc := pc1, m := mw } ∧ Fr (KM b mm (.slice ga gn gc)) w0 W3 ∧ Blk W3 tb #[.bool true, .int .u32 ad, .int .u32 dv, .bool true, .int .u32 0] 68 ∧ w0.heap.size ≤ tb) := ⟨_, rfl⟩
      have HKR : Hid (∀ (act : Act) (W3 : World) (tb : Nat), act = fr15s b rd tb (fun i => act.tmps.getD i undef) → (MR W3 b mm (.slice (some ⟨pb, po, none⟩) pn pcap) (.slice ga gn gc) prog { M with pc := pc1, m := mw } ∧ Fr (KM b mm (.slice ga gn gc)) w0 W3 ∧ Blk W3 tb #[.bool true, .int .u32 ad, .int .u32 dv, .bool true, .int .u32 0] 68 ∧ w0.heap.size ≤ tb) → KR act W3) := fun act W3 tb e h => by rw [hKR]; exact ⟨_, tb, e, h⟩
      rw [← hKR]
      clear hKR
      refine wp_region_tree [0, 1, 2, 3, 4, 5, 6, 7, 8, 9, 10, 11, 12, 13] [] 3 [0, 1, 2, 4, 5, 6, 7, 8, 9, 10, 11, 13] mixed (fun ω => ω.cell? ⟨b, 1, none⟩ = some (.map (some mm)) ∧ ω.cell? ⟨b, 2 + rd, none⟩ = some (.int .u32 dv)) (by kernel_rfl) rfl (by kernel_rfl) (HJJ.out _ M.m HMD.out.1) ?_
      refine wpFl_op _ _ _ _ rfl rfl (fun ω hj => by first | (go_simp; rfl) | (have j1 := (hj rfl).1; have j2 := (hj rfl).2; go_simp; rfl)) ?_
      simp only [List.getElem_toArray, List.getElem_cons_succ, List.getElem_cons_zero, Act.put, List.setIfInBounds_toArray, List.set_cons_succ, List.set_cons_zero]
      refine wpFl_op _ _ _ _ rfl rfl (fun ω hj => by first | (go_simp; rfl) | (have j1 := (hj rfl).1; have j2 := (hj rfl).2; go_simp; rfl)) ?_
      simp only [List.getElem_toArray, List.getElem_cons_succ, List.getElem_cons_zero, Act.put, List.setIfInBounds_toArray, List.set_cons_succ, List.set_cons_zero]
      refine wpFl_op _ _ _ _ rfl rfl (fun ω hj => by first | (go_simp; rfl) | (have j1 := (hj rfl).1; have j2 := (hj rfl).2; go_simp; rfl)) ?_
      simp only [List.getElem_toArray, List.getElem_cons_succ, List.getElem_cons_zero, Act.put, List.setIfInBounds_toArray, List.set_cons_succ, List.set_cons_zero]
      refine wpFl_op _ _ _ _ rfl rfl (fun ω hj => by first | (go_simp; rfl) | (have j1 := (hj rfl).1; have j2 := (hj rfl).2; go_simp; rfl)) ?_
      simp only [List.getElem_toArray, List.getElem_cons_succ, List.getElem_cons_zero, Act.put, List.setIfInBounds_toArray, List.set_cons_succ, List.set_cons_zero]
      refine wpFl_op _ _ _ _ rfl rfl (fun ω hj => by first | (go_simp; rfl) | (have j1 := (hj rfl).1; have j2 := (hj rfl).2; go_simp; rfl)) ?_
      simp only [List.getElem_toArray, List.getElem_cons_succ, List.getElem_cons_zero, Act.put, List.setIfInBounds_toArray, List.set_cons_succ, List.set_cons_zero]
      refine wpFl_op _ _ _ _ rfl rfl (fun ω hj => by first | (go_simp; rfl) | (have j1 := (hj rfl).1; have j2 := (hj rfl).2; go_simp; rfl)) ?_
      simp only [List.getElem_toArray, List.getElem_cons_succ, List.getElem_cons_zero, Act.put, List.setIfInBounds_toArray, List.set_cons_succ, List.set_cons_zero]
      refine wpFl_op _ _ _ _ rfl rfl (fun ω hj => by first | (go_simp; rfl) | (have j1 := (hj rfl).1; have j2 := (hj rfl).2; go_simp; rfl)) ?_
      simp only [List.getElem_toArray, List.getElem_cons_succ, List.getElem_cons_zero, Act.put, List.setIfInBounds_toArray, List.set_cons_succ, List.set_cons_zero]
      refine wpFl_op _ _ _ _ rfl rfl (fun ω hj => by first | (go_simp; rfl) | (have j1 := (hj rfl).1; have j2 := (hj rfl).2; go_simp; rfl)) ?_
      simp only [List.getElem_toArray, List.getElem_cons_succ, List.getElem_cons_zero, Act.put, List.setIfInBounds_toArray, List.set_cons_succ, List.set_cons_zero]
      refine wpFl_op _ _ _ _ rfl rfl (fun ω hj => by first | (go_simp; rfl) | (have j1 := (hj rfl).1; have j2 := (hj rfl).2; go_simp; rfl)) ?_
      simp only [List.getElem_toArray, List.getElem_cons_succ, List.getElem_cons_zero, Act.put, List.setIfInBounds_toArray, List.set_cons_succ, List.set_cons_zero]
      refine wpFl_op _ _ _ _ rfl rfl (fun ω hj => by first | (go_simp; rfl) | (have j1 := (hj rfl).1; have j2 := (hj rfl).2; go_simp; rfl)) ?_
      simp only [List.getElem_toArray, List.getElem_cons_succ, List.getElem_cons_zero, Act.put, List.setIfInBounds_toArray, List.set_cons_succ, List.set_cons_zero]
      refine wpFl_op _ _ _ _ rfl rfl (fun ω hj => by first | (go_simp; rfl) | (have j1 := (hj rfl).1; have j2 := (hj rfl).2; go_simp; rfl)) ?_
      simp only [List.getElem_toArray, List.getElem_cons_succ, List.getElem_cons_zero, Act.put, List.setIfInBounds_toArray, List.set_cons_succ, List.set_cons_zero]
      refine wpFl_op _ _ _ _ rfl rfl (fun ω hj => by first | (go_simp; rfl) | (have j1 := (hj rfl).1; have j2 := (hj rfl).2; go_simp; rfl)) ?_
      simp only [List.getElem_toArray, List.getElem_cons_succ, List.getElem_cons_zero, Act.put, List.setIfInBounds_toArray, List.set_cons_succ, List.set_cons_zero]
      refine wpFl_op _ _ _ _ rfl rfl (fun ω hj => by first | (go_simp; rfl) | (have j1 := (hj rfl).1; have j2 := (hj rfl).2; go_simp; rfl)) ?_
      simp only [List.getElem_toArray, List.getElem_cons_succ, List.getElem_cons_zero, Act.put, List.setIfInBounds_toArray, List.set_cons_succ, List.set_cons_zero]
      refine wpFl_op _ _ _ _ rfl rfl (fun ω hj => by first | (go_simp; rfl) | (have j1 := (hj rfl).1; have j2 := (hj rfl).2; go_simp; rfl)) ?_
      simp only [List.getElem_toArray, List.getElem_cons_succ, List.getElem_cons_zero, Act.put, List.setIfInBounds_toArray, List.set_cons_succ, List.set_cons_zero]
      refine wpFl_nil _ _ ?_
      refine wpAnyJ_stepJ _ _ _ _ [14, 15] (by kernel_rfl) rfl (by kernel_rfl) ?_
      intro i hi
      simp only [List.mem_cons, List.not_mem_nil, or_false] at hi
      rcases hi with rfl | rfl
      · refine wpOp_list _ rfl ?_
        go_wp2_with fail
        refine (HACC.out _ HMD.out.1.map).mono ?_
        rintro e w2 ⟨rfl, hm2, hf2⟩
        have HM2 : Hid (MR w2 b mm (.slice (some ⟨pb, po, none⟩) pn pcap) (.slice ga gn gc) prog { M with pc := pc1, m := mw } ∧ Fr (KM b mm (.slice ga gn gc)) w0 w2) := ⟨HMD.out.1.acc hf2 mw hm2, HMD.out.2.trans' hf2 fun k _ e => .inr (.inl e)⟩
        clear hm2 hf2
        go_wp2_with fail
        refine ⟨fun _ => HJJ.out _ mw HM2.out.1, ?_⟩
        refine wpAnyJ_stepJ _ _ _ _ [15] (by kernel_rfl) rfl (by kernel_rfl) ?_
        intro i hi
        obtain rfl : i = 15 := by simpa using hi
        refine wpOp_list _ rfl ?_
        go_wp2_with fail
        refine ⟨fun _ => HJJ.out _ mw (HM2.out.1.below ((Below.refl _ _).alloc (Nat.le_refl _) _)), ?_⟩
        refine wpAnyJ_stepJ _ _ _ _ [16] (by kernel_rfl) rfl (by kernel_rfl) ?_
        intro i hi
        obtain rfl : i = 16 := by simpa using hi
        refine wpOp_list _ rfl ?_
        go_wp2_with fail
        refine ⟨fun _ => HJJ.out _ mw (HM2.out.1.below ((Below.refl _ _).alloc (Nat.le_refl _) _)), ?_⟩
        refine wpAnyJ_end _ _ _ _ (by kernel_rfl) ?_
        exact HKR.out _ _ _ (by kernel_rfl) ⟨HM2.out.1.below ((Below.refl _ _).alloc (Nat.le_refl _) _), HM2.out.2.alloc _, Blk.new _ _ _, HM2.out.2.size⟩
      · refine wpOp_list _ rfl ?_
        go_wp2_with fail
        have HMB : Hid (MR (wd.drew.alloc (.cells #[.bool false, .int .u32 0, .int .u32 0, .bool false, .int .u32 0] 68)) b mm (.slice (some ⟨pb, po, none⟩) pn pcap) (.slice ga gn gc) prog { M with pc := pc1 } ∧ Fr (KM b mm (.slice ga gn gc)) w0 (wd.drew.alloc (.cells #[.bool false, .int .u32 0, .int .u32 0, .bool false, .int .u32 0] 68)) ∧ Blk (wd.drew.alloc (.cells #[.bool false, .int .u32 0, .int .u32 0, .bool false, .int .u32 0] 68)) wd.heap.size #[.bool false, .int .u32 0, .int .u32 0, .bool false, .int .u32 0] 68) := ⟨HMD.out.1.below ((Below.refl _ _).alloc (Nat.le_refl _) _), HMD.out.2.alloc _, Blk.new _ _ _⟩
        refine ⟨fun _ => HJJ.out _ M.m HMB.out.1, ?_⟩
        refine wpAnyJ_stepJ _ _ _ _ [14] (by kernel_rfl) rfl (by kernel_rfl) ?_
        intro i hi
        obtain rfl : i = 14 := by simpa using hi
        refine wpOp_list _ rfl ?_
        go_wp2_with fail
        refine (HACC.out _ HMB.out.1.map).mono ?_
        rintro e w2 ⟨rfl, hm2, hf2⟩
        have hne2 : ¬ wd.heap.size = mm := fun e => by
          have h1 := HLT.out mm (.inr (.inl rfl))
          have h2 : w0.heap.size ≤ wd.heap.size := HMD.out.2.size
          omega
        have HM2 : Hid (MR w2 b mm (.slice (some ⟨pb, po, none⟩) pn pcap) (.slice ga gn gc) prog { M with pc := pc1, m := mw } ∧ Fr (KM b mm (.slice ga gn gc)) w0 w2 ∧ Blk w2 wd.heap.size #[.bool false, .int .u32 0, .int .u32 0, .bool false, .int .u32 0] 68) := ⟨HMB.out.1.acc hf2 mw hm2, HMB.out.2.1.trans' hf2 fun k _ e => .inr (.inl e), HMB.out.2.2.fr hf2 hne2⟩
        clear hm2 hf2
        go_wp2_with fail
        refine ⟨fun _ => HJJ.out _ mw HM2.out.1, ?_⟩
        obtain ⟨u2, hu2, hl2⟩ := HM2.out.2.2.out
        have hge : w0.heap.size ≤ wd.heap.size := HMD.out.2.size
        have HF2 : Hid (MR (put u2 wd.heap.size #[.bool true, .int .u32 ad, .int .u32 dv, .bool true, .int .u32 0] 68) b mm (.slice (some ⟨pb, po, none⟩) pn pcap) (.slice ga gn gc) prog { M with pc := pc1, m := mw } ∧ Fr (KM b mm (.slice ga gn gc)) w0 (put u2 wd.heap.size #[.bool true, .int .u32 ad, .int .u32 dv, .bool true, .int .u32 0] 68) ∧ Blk (put u2 wd.heap.size #[.bool true, .int .u32 ad, .int .u32 dv, .bool true, .int .u32 0] 68) wd.heap.size #[.bool true, .int .u32 ad, .int .u32 dv, .bool true, .int .u32 0] 68 ∧ w0.heap.size ≤ wd.heap.size) := by
          have hb := HM2.out.2.2
          have h1 := HM2.out.1
          have f1 := HM2.out.2.1.put (b := wd.heap.size) (fun q => by omega) #[.bool true, .int .u32 ad, .int .u32 dv, .bool true, .int .u32 0] 68
          have hlog : ∀ k, ((.slice ga gn gc) : Value).ownBlock = some k → k ≠ wd.heap.size := fun k hk e => by have := HLT.out k (.inr (.inr hk)); omega
          have h2 : MR (put w2 wd.heap.size #[.bool true, .int .u32 ad, .int .u32 dv, .bool true, .int .u32 0] 68) b mm (.slice (some ⟨pb, po, none⟩) pn pcap) (.slice ga gn gc) prog { M with pc := pc1, m := mw } := ⟨h1.blk.put_ne (h1.blk.neT hb (by decide)), h1.prog.same fun k hk => put_heap_ne _ _ _ _ _ (hb.sl_ne (by decide) h1.prog k hk), h1.map.same (put_heap_ne _ _ _ _ _ (h1.map.neB hb)), h1.log.same fun k hk => put_heap_ne _ _ _ _ _ (hlog k hk)⟩
          rw [hu2, put_put] at h2 f1
          exact ⟨h2, f1, Blk.put_same hl2, hge⟩
        clear HM2 HMB
        subst hu2
        refine wpAnyJ_stepJ _ _ _ _ [16] (by kernel_rfl) rfl (by kernel_rfl) ?_
        intro i hi
        obtain rfl : i = 16 := by simpa using hi
        refine wpOp_list _ rfl ?_
        go_wp2_with fail
        refine ⟨fun _ => HJJ.out _ mw HF2.out.1, ?_⟩
        refine wpAnyJ_end _ _ _ _ (by kernel_rfl) ?_
        exact HKR.out _ _ _ (by kernel_rfl) HF2.out
    case rest0 =>
    clear HACC HMD HMW had
    rintro act W3 ⟨u, tb, rfl, HM3⟩
    unfold fr15s
    go_upto_region 52 with fail
    have HMA : Hid (MR (W3.drew.alloc (.cells [.bool true, .int .u32 ad, .int .u32 dv, .bool true, .int .u32 0].toArray 68)) b mm (.slice (some ⟨pb, po, none⟩) pn pcap) (.slice ga gn gc) prog { M with pc := pc1, m := mw } ∧ Fr (KM b mm (.slice ga gn gc)) w0 (W3.drew.alloc (.cells [.bool true, .int .u32 ad, .int .u32 dv, .bool true, .int .u32 0].toArray 68)) ∧ Blk (W3.drew.alloc (.cells [.bool true, .int .u32 ad, .int .u32 dv, .bool true, .int .u32 0].toArray 68)) tb #[.bool true, .int .u32 ad, .int .u32 dv, .bool true, .int .u32 0] 68) :=
      ⟨(HM3.out.1.below (w' := W3.drew) ⟨rfl, rfl, rfl, Nat.le_refl _, fun _ _ => rfl⟩).below ((Below.refl _ _).alloc (Nat.le_refl _) _), HM3.out.2.1.drew.alloc _, (HM3.out.2.2.1 : Blk W3.drew tb _ 68).alloc _⟩
    have HSW : Hid (Sl (W3.drew.alloc (.cells [.bool true, .int .u32 ad, .int .u32 dv, .bool true, .int .u32 0].toArray 68)) (.slice ga gn gc) 68 5 gn (M.log.flatMap trow)) := by
      have h9 := HMA.out.1.log
      rw [show ({ M with pc := pc1, m := mw } : IM).log.length = gn from HGN.out.1] at h9
      exact h9
    have HTB : Hid (w0.heap.size ≤ tb ∧ tb < W3.heap.size) := ⟨HM3.out.2.2.2, HM3.out.2.2.1.lt⟩
    refine wp_region_float [0, 1, 2, 3, 4, 5] [6, 7, 8, 9, 10] [0, 1, 2, 3] mixed (fun ω => ω.cell? ⟨b, 21, none⟩ = some (.slice ga gn gc) ∧ Blk ω tb #[.bool true, .int .u32 ad, .int .u32 dv, .bool true, .int .u32 0] 68) (by kernel_rfl) rfl (by kernel_rfl) ⟨HM3.out.1.blk.cell 21, HM3.out.2.2.1⟩ ?_
    refine wpFl_op _ _ _ _ rfl rfl (fun ω hj => by go_simp; rfl) ?_
    simp only [List.getElem_toArray, List.getElem_cons_succ, List.getElem_cons_zero, Act.put, List.setIfInBounds_toArray, List.set_cons_succ, List.set_cons_zero]
    refine wpFl_op _ _ _ _ rfl rfl (fun ω hj => by go_simp; rfl) ?_
    simp only [List.getElem_toArray, List.getElem_cons_succ, List.getElem_cons_zero, Act.put, List.setIfInBounds_toArray, List.set_cons_succ, List.set_cons_zero]
    refine wpFl_op _ _ _ _ rfl rfl (fun ω hj => by go_simp; rfl) ?_
    simp only [List.getElem_toArray, List.getElem_cons_succ, List.getElem_cons_zero, Act.put, List.setIfInBounds_toArray, List.set_cons_succ, List.set_cons_zero]
    refine wpFl_op _ _ _ _ rfl rfl (fun ω hj => by go_simp; rfl) ?_
    simp only [List.getElem_toArray, List.getElem_cons_succ, List.getElem_cons_zero, Act.put, List.setIfInBounds_toArray, List.set_cons_succ, List.set_cons_zero]
    refine wpFl_op _ _ _ _ rfl rfl (fun ω hj => by have q := (hj rfl).1; go_simp; rfl) ?_
    simp only [List.getElem_toArray, List.getElem_cons_succ, List.getElem_cons_zero, Act.put, List.setIfInBounds_toArray, List.set_cons_succ, List.set_cons_zero]
    refine wpFl_op _ _ _ _ rfl rfl (fun ω hj => by
      have q0 : ω.cell? ⟨tb, 0, none⟩ = some (.bool true) := (hj rfl).2.cell 0
      have q1 : ω.cell? ⟨tb, 1, none⟩ = some (.int .u32 ad) := (hj rfl).2.cell 1
      have q2 : ω.cell? ⟨tb, 2, none⟩ = some (.int .u32 dv) := (hj rfl).2.cell 2
      have q3 : ω.cell? ⟨tb, 3, none⟩ = some (.bool true) := (hj rfl).2.cell 3
      have q4 : ω.cell? ⟨tb, 4, none⟩ = some (.int .u32 0) := (hj rfl).2.cell 4
      go_simp; rfl) ?_
    simp only [List.getElem_toArray, List.getElem_cons_succ, List.getElem_cons_zero, Act.put, List.setIfInBounds_toArray, List.set_cons_succ, List.set_cons_zero]
    refine wpFl_nil _ _ ?_
    refine wpCh_one _ _ _ _ rfl ?_
    simp only [List.getElem_toArray, List.getElem_cons_succ, List.getElem_cons_zero, Act.put, List.setIfInBounds_toArray, List.set_cons_succ, List.set_cons_zero]
    go_wp2_with fail
    refine ⟨⟨HMA.out.1.blk.cell 21, HMA.out.2.2⟩, ?_⟩
    refine wpCh_rest _ _ _ _ [_, _, _, _] _ _ rfl (by kernel_rfl) ?_
    simp only [List.getElem_toArray, List.getElem_cons_succ, List.getElem_cons_zero, Act.put, List.setIfInBounds_toArray, List.set_cons_succ, List.set_cons_zero]
    go_wp2_with (at_builtin; (refine wpList_append_sl _ rfl (.tmp 309) (.tmp 311) 39 rfl 68 i0 (.agg #[.bool false, .int .u32 0, .int .u32 0, .bool false, .int .u32 0]) 5 20 Try.underlying39 hinf hz0 hz1 hz2 rfl (by decide) _ _ _ rfl HSW.out ⟨W3.drew.heap.size, 0, none⟩ 1 1 [.bool true, .int .u32 ad, .int .u32 dv, .bool true, .int .u32 0] rfl rfl ?k1 ?k2 ?k3 ?k4 ?_))
    case k1 => exact cells_new _ _ _ _ rfl
    case k2 => intro v hv; simp at hv; rcases hv with rfl | rfl | rfl | rfl | rfl <;> rfl
    case k3 => unfold maxLen; have := HGN.out.2; omega
    case k4 => have := HGN.out.2; omega
    intro v' w4 hsl hgr hnew
    obtain ⟨ba, bo, gc2, rfl, hq1, hq2⟩ := hsl.form (by omega)
    obtain ⟨ga2, hga2⟩ : ∃ x, some (⟨ba, bo, none⟩ : Addr) = x := ⟨_, rfl⟩
    rw [hga2] at hsl hnew ⊢
    have hpush := MR.push (M' := { { M with pc := pc1, m := mw } with log := M.log ++ [⟨true, ad, dv, true, 0⟩] }) (t := ⟨true, ad, dv, true, 0⟩) HMA.out.1 hgr rfl rfl (by rw [show ({ M with pc := pc1, m := mw } : IM).log.length = gn from HGN.out.1]; exact hsl)
    have hgo : ∀ k, ((.slice ga gn gc) : Value).ownBlock = some k → k < w0.heap.size := fun k hk => HLT.out k (.inr (.inr hk))
    have fr4 : Fr (KM b mm (.slice ga gn gc)) w0 w4 := HMA.out.2.1.grown hgr (fun k _ e => .inr (.inr e))
    have ht4 : Blk w4 tb #[.bool true, .int .u32 ad, .int .u32 dv, .bool true, .int .u32 0] 68 := (hgr.block tb HMA.out.2.2.lt (fun e => by have := hgo tb e.symm; have := HTB.out.1; omega)).trans HMA.out.2.2
    obtain ⟨u4, hu4, hl4⟩ := hpush.2.out
    have hne : tb ≠ b := fun e => by have := HLT.out b (.inl rfl); have := HTB.out.1; omega
    have z3 : u4.cell? ⟨tb, 3, none⟩ = some (.bool true) := by
      have h8 : w4.cell? ⟨tb, 3, none⟩ = some (.bool true) := ht4.cell 3
      rw [hu4, pcne hne] at h8
      exact h8
    have z4 : u4.cell? ⟨tb, 4, none⟩ = some (.int .u32 0) := by
      have h8 : w4.cell? ⟨tb, 4, none⟩ = some (.int .u32 0) := ht4.cell 4
      rw [hu4, pcne hne] at h8
      exact h8
    have HFIN2 : Hid (∀ (cs' : Array Value) (M2 : IM), cs' = mV (.slice (some ⟨pb, po, none⟩) pn pcap) mm M2 (.slice ga2 (gn + 1) gc2) → M2.m = ({ M with pc := pc1, m := mw } : IM).m → M2.log = M.log ++ [⟨true, ad, dv, true, 0⟩] → MPost w0 b mm (.slice (some ⟨pb, po, none⟩) pn pcap) (.slice ga gn gc) prog M2 (put u4 b cs' 46) ∧ MPost w0 b mm (.slice (some ⟨pb, po, none⟩) pn pcap) (.slice ga gn gc) prog M2 (put u4 b cs' 46).drew) := fun cs' M2 e1 e2 e3 => by
      have h9 := hpush.1
      rw [hu4, put_put] at h9
      have h8 := h9.row M2 e2 e3
      rw [put_put, ← e1] at h8
      have f8 := fr4.put (b := b) (fun _ => .inl rfl) cs' 46
      rw [hu4, put_put] at f8
      have ho : ∀ k, (Value.slice ga2 (gn + 1) gc2).ownBlock = some k → ((.slice ga gn gc) : Value).ownBlock = some k ∨ w0.heap.size ≤ k := fun k hk => by
        rcases hnew k hk with q | q
        · exact .inl q
        · right
          have h2 := HTB.out
          have h3 := HM3.out.2.1.size
          have q2 : W3.heap.size + 1 ≤ k := by first | exact q | (simp at q; exact q)
          omega
      exact ⟨⟨_, h8, f8, ho⟩, ⟨_, h8.below ⟨rfl, rfl, rfl, Nat.le_refl _, fun _ _ => rfl⟩, f8.drew, ho⟩⟩
    clear hpush hsl hgr hnew hq1 hq2 hga2 HSW HMA HM3 fr4 ht4 hgo hinf hz0 hz1 hz2
    have hu4' : w4 = put u4 b #[.slice (some ⟨pb, po, none⟩) pn pcap, .map (some mm), .int .u32 (M.r 0), .int .u32 (M.r 1), .int .u32 (M.r 2), .int .u32 (M.r 3), .int .u32 (M.r 4), .int .u32 (M.r 5), .int .u32 (M.r 6), .int .u32 (M.r 7), .int .u32 (M.r 8), .int .u32 (M.r 9), .int .u32 (M.r 10), .int .u32 (M.r 11), .int .u32 (M.r 12), .int .u32 (M.r 13), .int .u32 (M.r 14), .int .u32 (M.r 15), .int .u32 pc1, .bool false, .bool false, .slice ga gn gc] 46 := by
      rw [hu4]
      unfold mV
      simp only [HHT.out.1, HHT.out.2]
    clear hu4
    subst hu4'
    clear z4
    go_wp2_with fail
    exact bodyPost_end (v := .tuple #[]) (results_none rfl _ _ _) rfl ⟨rfl, by rw [HIT.out, HW0.out]; exact (HFIN2.out _ { M with m := mw, pc := pc1, tra := true, log := M.log ++ [⟨true, ad, dv, true, 0⟩] } (by unfold mV; simp only [HHT.out.1]) rfl rfl).1⟩
  · obtain ⟨mw, hmw⟩ : ∃ mw, accM M.m true ad dv = mw := ⟨_, rfl⟩
    have hT : accT M.m true ad dv = ⟨true, ad, dv, false, 0⟩ := by unfold accT; rw [hm]; simp
    have HIT : Hid (itI M ⟨18, rd, ra, rb, i12, i16⟩ = { M with m := mw, pc := pc1, tra := false, log := M.log ++ [⟨true, ad, dv, false, 0⟩] }) := by
      unfold Hid itI
      simp only []
      rw [HPC1.out, HV.out.1, HAD.out, hdv, hT, hmw, hm]
      simp
    have HACC : Hid (∀ W : World, MapB W mm M.m → Calls Try.prog 39 #[.map (some mm), .agg #[.bool true, .int .u32 ad, .int .u32 dv]] W fun e w' => e = .returned (.agg #[.bool true, .int .u32 ad, .int .u32 dv, .bool false, .int .u32 0]) ∧ MapB w' mm mw ∧ Fr (· = mm) W w') := fun W hW => by
      have := access_any mm M.m true ad dv HWA.out W hW
      rw [hT, hmw] at this
      exact this
    have HDV := hid_of hdv
    have HMD : Hid (MR wd.drew b mm (.slice (some ⟨pb, po, none⟩) pn pcap) (.slice ga gn gc) prog { M with pc := pc1 } ∧ Fr (KM b mm (.slice ga gn gc)) w0 wd.drew) := ⟨HMW.out.1.below ⟨rfl, rfl, rfl, Nat.le_refl _, fun _ _ => rfl⟩, HMW.out.2.drew⟩
    have HJJ : Hid (∀ (W : World) (m' : Int → Int), MR W b mm (.slice (some ⟨pb, po, none⟩) pn pcap) (.slice ga gn gc) prog { M with pc := pc1, m := m' } → W.cell? ⟨b, 1, none⟩ = some (.map (some mm)) ∧ W.cell? ⟨b, 2 + rd, none⟩ = some (.int .u32 dv)) := fun W m' h => ⟨h.blk.cell 1, by
      have h9 := h.blk.cell (2 + rd)
      rw [mV_reg _ _ _ _ _ HRD.out.1] at h9
      rw [← HDV.out]
      exact h9⟩
    clear hT hm hmw hdv c1
    go_upto_region 51 with fail
    refine cutM (Km := fun act W3 => ∃ (u : Nat → Value) (tb : Nat), act = fr15s b rd tb u ∧ Hid (MR W3 b mm (.slice (some ⟨pb, po, none⟩) pn pcap) (.slice ga gn gc) prog { M with pc := pc1, m := mw } ∧ Fr (KM b mm (.slice ga gn gc)) w0 W3 ∧ Blk W3 tb #[.bool true, .int .u32 ad, .int .u32 dv, .bool false, .int .u32 0] 68 ∧ w0.heap.size ≤ tb)) ?rest1 ?first1
    case first1 =>
      obtain ⟨KR, hKR⟩ : ∃ KR : Act → World → Prop, KR = fun act W3 => ∃ (u : Nat → Value) (tb : Nat), act = fr15s b rd tb u ∧ Hid (MR W3 b mm (.slice (some ⟨pb, po, none⟩) pn pcap) (.slice ga gn gc) prog { M with pc := pc1, m := mw } ∧ Fr (KM b mm (.slice ga gn gc)) w0 W3 ∧ Blk W3 tb #[.bool true, .int .u32 ad, .int .u32 dv, .bool false, .int .u32 0] 68 ∧ w0.heap.size ≤ tb) := ⟨_, rfl⟩
      have HKR : Hid (∀ (act : Act) (W3 : World) (tb : Nat), act = fr15s b rd tb (fun i => act.tmps.getD i undef) → (MR W3 b mm (.slice (some ⟨pb, po, none⟩) pn pcap) (.slice ga gn gc) prog { M with pc := pc1, m := mw } ∧ Fr (KM b mm (.slice ga gn gc)) w0 W3 ∧ Blk W3 tb #[.bool true, .int .u32 ad, .int .u32 dv, .bool false, .int .u32 0] 68 ∧ w0.heap.size ≤ tb) → KR act W3) := fun act W3 tb e h => by rw [hKR]; exact ⟨_, tb, e, h⟩
      rw [← hKR]
      clear hKR
      refine wp_region_tree [0, 1, 2, 3, 4, 5, 6, 7, 8, 9, 10, 11, 12, 13] [] 3 [0, 1, 2, 4, 5, 6, 7, 8, 9, 10, 11, 13] mixed (fun ω => ω.cell? ⟨b, 1, none⟩ = some (.map (some mm)) ∧ ω.cell? ⟨b, 2 + rd, none⟩ = some (.int .u32 dv)) (by kernel_rfl) rfl (by kernel_rfl) (HJJ.out _ M.m HMD.out.1) ?_
      refine wpFl_op _ _ _ _ rfl rfl (fun ω hj => by first | (go_simp; rfl) | (have j1 := (hj rfl).1; have j2 := (hj rfl).2; go_simp; rfl)) ?_
      simp only [List.getElem_toArray, List.getElem_cons_succ, List.getElem_cons_zero, Act.put, List.setIfInBounds_toArray, List.set_cons_succ, List.set_cons_zero]
      refine wpFl_op _ _ _ _ rfl rfl (fun ω hj => by first | (go_simp; rfl) | (have j1 := (hj rfl).1; have j2 := (hj rfl).2; go_simp; rfl)) ?_
      simp only [List.getElem_toArray, List.getElem_cons_succ, List.getElem_cons_zero, Act.put, List.setIfInBounds_toArray, List.set_cons_succ, List.set_cons_zero]
      refine wpFl_op _ _ _ _ rfl rfl (fun ω hj => by first | (go_simp; rfl) | (have j1 := (hj rfl).1; have j2 := (hj rfl).2; go_simp; rfl)) ?_
      simp only [List.getElem_toArray, List.getElem_cons_succ, List.getElem_cons_zero, Act.put, List.setIfInBounds_toArray, List.set_cons_succ, List.set_cons_zero]
      refine wpFl_op _ _ _ _ rfl rfl (fun ω hj => by first | (go_simp; rfl) | (have j1 := (hj rfl).1; have j2 := (hj rfl).2; go_simp; rfl)) ?_
      simp only [List.getElem_toArray, List.getElem_cons_succ, List.getElem_cons_zero, Act.put, List.setIfInBounds_toArray, List.set_cons_succ, List.set_cons_zero]
      refine wpFl_op _ _ _ _ rfl rfl (fun ω hj => by first | (go_simp; rfl) | (have j1 := (hj rfl).1; have j2 := (hj rfl).2; go_simp; rfl)) ?_
      simp only [List.getElem_toArray, List.getElem_cons_succ, List.getElem_cons_zero, Act.put, List.setIfInBounds_toArray, List.set_cons_succ, List.set_cons_zero]
      refine wpFl_op _ _ _ _ rfl rfl (fun ω hj => by first | (go_simp; rfl) | (have j1 := (hj rfl).1; have j2 := (hj rfl).2; go_simp; rfl)) ?_
      simp only [List.getElem_toArray, List.getElem_cons_succ, List.getElem_cons_zero, Act.put, List.setIfInBounds_toArray, List.set_cons_succ, List.set_cons_zero]
      refine wpFl_op _ _ _ _ rfl rfl (fun ω hj => by first | (go_simp; rfl) | (have j1 := (hj rfl).1; have j2 := (hj rfl).2; go_simp; rfl)) ?_
      simp only [List.getElem_toArray, List.getElem_cons_succ, List.getElem_cons_zero, Act.put, List.setIfInBounds_toArray, List.set_cons_succ, List.set_cons_zero]
      refine wpFl_op _ _ _ _ rfl rfl (fun ω hj => by first | (go_simp; rfl) | (have j1 := (hj rfl).1; have j2 := (hj rfl).2; go_simp; rfl)) ?_
      simp only [List.getElem_toArray, List.getElem_cons_succ, List.getElem_cons_zero, Act.put, List.setIfInBounds_toArray, List.set_cons_succ, List.set_cons_zero]
      refine wpFl_op _ _ _ _ rfl rfl (fun ω hj => by first | (go_simp; rfl) | (have j1 := (hj rfl).1; have j2 := (hj rfl).2; go_simp; rfl)) ?_
      simp only [List.getElem_toArray, List.getElem_cons_succ, List.getElem_cons_zero, Act.put, List.setIfInBounds_toArray, List.set_cons_succ, List.set_cons_zero]
      refine wpFl_op _ _ _ _ rfl rfl (fun ω hj => by first | (go_simp; rfl) | (have j1 := (hj rfl).1; have j2 := (hj rfl).2; go_simp; rfl)) ?_
      simp only [List.getElem_toArray, List.getElem_cons_succ, List.getElem_cons_zero, Act.put, List.setIfInBounds_toArray, List.set_cons_succ, List.set_cons_zero]
      refine wpFl_op _ _ _ _ rfl rfl (fun ω hj => by first | (go_simp; rfl) | (have j1 := (hj rfl).1; have j2 := (hj rfl).2; go_simp; rfl)) ?_
      simp only [List.getElem_toArray, List.getElem_cons_succ, List.getElem_cons_zero, Act.put, List.setIfInBounds_toArray, List.set_cons_succ, List.set_cons_zero]
      refine wpFl_op _ _ _ _ rfl rfl (fun ω hj => by first | (go_simp; rfl) | (have j1 := (hj rfl).1; have j2 := (hj rfl).2; go_simp; rfl)) ?_
      simp only [List.getElem_toArray, List.getElem_cons_succ, List.getElem_cons_zero, Act.put, List.setIfInBounds_toArray, List.set_cons_succ, List.set_cons_zero]
      refine wpFl_op _ _ _ _ rfl rfl (fun ω hj => by first | (go_simp; rfl) | (have j1 := (hj rfl).1; have j2 := (hj rfl).2; go_simp; rfl)) ?_
      simp only [List.getElem_toArray, List.getElem_cons_succ, List.getElem_cons_zero, Act.put, List.setIfInBounds_toArray, List.set_cons_succ, List.set_cons_zero]
      refine wpFl_op _ _ _ _ rfl rfl (fun ω hj => by first | (go_simp; rfl) | (have j1 := (hj rfl).1; have j2 := (hj rfl).2; go_simp; rfl)) ?_
      simp only [List.getElem_toArray, List.getElem_cons_succ, List.getElem_cons_zero, Act.put, List.setIfInBounds_toArray, List.set_cons_succ, List.set_cons_zero]
      refine wpFl_nil _ _ ?_
      refine wpAnyJ_stepJ _ _ _ _ [14, 15] (by kernel_rfl) rfl (by kernel_rfl) ?_
      intro i hi
      simp only [List.mem_cons, List.not_mem_nil, or_false] at hi
      rcases hi with rfl | rfl
      · refine wpOp_list _ rfl ?_
        go_wp2_with fail
        refine (HACC.out _ HMD.out.1.map).mono ?_
        rintro e w2 ⟨rfl, hm2, hf2⟩
        have HM2 : Hid (MR w2 b mm (.slice (some ⟨pb, po, none⟩) pn pcap) (.slice ga gn gc) prog { M with pc := pc1, m := mw } ∧ Fr (KM b mm (.slice ga gn gc)) w0 w2) := ⟨HMD.out.1.acc hf2 mw hm2, HMD.out.2.trans' hf2 fun k _ e => .inr (.inl e)⟩
        clear hm2 hf2
        go_wp2_with fail
        refine ⟨fun _ => HJJ.out _ mw HM2.out.1, ?_⟩
        refine wpAnyJ_stepJ _ _ _ _ [15] (by kernel_rfl) rfl (by kernel_rfl) ?_
        intro i hi
        obtain rfl : i = 15 := by simpa using hi
        refine wpOp_list _ rfl ?_
        go_wp2_with fail
        refine ⟨fun _ => HJJ.out _ mw (HM2.out.1.below ((Below.refl _ _).alloc (Nat.le_refl _) _)), ?_⟩
        refine wpAnyJ_stepJ _ _ _ _ [16] (by kernel_rfl) rfl (by kernel_rfl) ?_
        intro i hi
        obtain rfl : i = 16 := by simpa using hi
        refine wpOp_list _ rfl ?_
        go_wp2_with fail
        refine ⟨fun _ => HJJ.out _ mw (HM2.out.1.below ((Below.refl _ _).alloc (Nat.le_refl _) _)), ?_⟩
        refine wpAnyJ_end _ _ _ _ (by kernel_rfl) ?_
        exact HKR.out _ _ _ (by kernel_rfl) ⟨HM2.out.1.below ((Below.refl _ _).alloc (Nat.le_refl _) _), HM2.out.2.alloc _, Blk.new _ _ _, HM2.out.2.size⟩
      · refine wpOp_list _ rfl ?_
        go_wp2_with fail
        have HMB : Hid (MR (wd.drew.alloc (.cells #[.bool false, .int .u32 0, .int .u32 0, .bool false, .int .u32 0] 68)) b mm (.slice (some ⟨pb, po, none⟩) pn pcap) (.slice ga gn gc) prog { M with pc := pc1 } ∧ Fr (KM b mm (.slice ga gn gc)) w0 (wd.drew.alloc (.cells #[.bool false, .int .u32 0, .int .u32 0, .bool false, .int .u32 0] 68)) ∧ Blk (wd.drew.alloc (.cells #[.bool false, .int .u32 0, .int .u32 0, .bool false, .int .u32 0] 68)) wd.heap.size #[.bool false, .int .u32 0, .int .u32 0, .bool false, .int .u32 0] 68) := ⟨HMD.out.1.below ((Below.refl _ _).alloc (Nat.le_refl _) _), HMD.out.2.alloc _, Blk.new _ _ _⟩
        refine ⟨fun _ => HJJ.out _ M.m HMB.out.1, ?_⟩
        refine wpAnyJ_stepJ _ _ _ _ [14] (by kernel_rfl) rfl (by kernel_rfl) ?_
        intro i hi
        obtain rfl : i = 14 := by simpa using hi
        refine wpOp_list _ rfl ?_
        go_wp2_with fail
        refine (HACC.out _ HMB.out.1.map).mono ?_
        rintro e w2 ⟨rfl, hm2, hf2⟩
        have hne2 : ¬ wd.heap.size = mm := fun e => by
          have h1 := HLT.out mm (.inr (.inl rfl))
          have h2 : w0.heap.size ≤ wd.heap.size := HMD.out.2.size
          omega
        have HM2 : Hid (MR w2 b mm (.slice (some ⟨pb, po, none⟩) pn pcap) (.slice ga gn gc) prog { M with pc := pc1, m := mw } ∧ Fr (KM b mm (.slice ga gn gc)) w0 w2 ∧ Blk w2 wd.heap.size #[.bool false, .int .u32 0, .int .u32 0, .bool false, .int .u32 0] 68) := ⟨HMB.out.1.acc hf2 mw hm2, HMB.out.2.1.trans' hf2 fun k _ e => .inr (.inl e), HMB.out.2.2.fr hf2 hne2⟩
        clear hm2 hf2
        go_wp2_with fail
        refine ⟨fun _ => HJJ.out _ mw HM2.out.1, ?_⟩
        obtain ⟨u2, hu2, hl2⟩ := HM2.out.2.2.out
        have hge : w0.heap.size ≤ wd.heap.size := HMD.out.2.size
        have HF2 : Hid (MR (put u2 wd.heap.size #[.bool true, .int .u32 ad, .int .u32 dv, .bool false, .int .u32 0] 68) b mm (.slice (some ⟨pb, po, none⟩) pn pcap) (.slice ga gn gc) prog { M with pc := pc1, m := mw } ∧ Fr (KM b mm (.slice ga gn gc)) w0 (put u2 wd.heap.size #[.bool true, .int .u32 ad, .int .u32 dv, .bool false, .int .u32 0] 68) ∧ Blk (put u2 wd.heap.size #[.bool true, .int .u32 ad, .int .u32 dv, .bool false, .int .u32 0] 68) wd.heap.size #[.bool true, .int .u32 ad, .int .u32 dv, .bool false, .int .u32 0] 68 ∧ w0.heap.size ≤ wd.heap.size) := by
          have hb := HM2.out.2.2
          have h1 := HM2.out.1
          have f1 := HM2.out.2.1.put (b := wd.heap.size) (fun q => by omega) #[.bool true, .int .u32 ad, .int .u32 dv, .bool false, .int .u32 0] 68
          have hlog : ∀ k, ((.slice ga gn gc) : Value).ownBlock = some k → k ≠ wd.heap.size := fun k hk e => by have := HLT.out k (.inr (.inr hk)); omega
          have h2 : MR (put w2 wd.heap.size #[.bool true, .int .u32 ad, .int .u32 dv, .bool false, .int .u32 0] 68) b mm (.slice (some ⟨pb, po, none⟩) pn pcap) (.slice ga gn gc) prog { M with pc := pc1, m := mw } := ⟨h1.blk.put_ne (h1.blk.neT hb (by decide)), h1.prog.same fun k hk => put_heap_ne _ _ _ _ _ (hb.sl_ne (by decide) h1.prog k hk), h1.map.same (put_heap_ne _ _ _ _ _ (h1.map.neB hb)), h1.log.same fun k hk => put_heap_ne _ _ _ _ _ (hlog k hk)⟩
          rw [hu2, put_put] at h2 f1
          exact ⟨h2, f1, Blk.put_same hl2, hge⟩
        clear HM2 HMB
        subst hu2
        refine wpAnyJ_stepJ _ _ _ _ [16] (by kernel_rfl) rfl (by kernel_rfl) ?_
        intro i hi
        obtain rfl : i = 16 := by simpa using hi
        refine wpOp_list _ rfl ?_
        go_wp2_with fail
        refine ⟨fun _ => HJJ.out _ mw HF2.out.1, ?_⟩
        refine wpAnyJ_end _ _ _ _ (by kernel_rfl) ?_
        exact HKR.out _ _ _ (by kernel_rfl) HF2.out
    case rest1 =>
    clear HACC HMD HMW had
    rintro act W3 ⟨u, tb, rfl, HM3⟩
    unfold fr15s
    go_upto_region 52 with fail
    have HMA : Hid (MR (W3.drew.alloc (.cells [.bool true, .int .u32 ad, .int .u32 dv, .bool false, .int .u32 0].toArray 68)) b mm (.slice (some ⟨pb, po, none⟩) pn pcap) (.slice ga gn gc) prog { M with pc := pc1, m := mw } ∧ Fr (KM b mm (.slice ga gn gc)) w0 (W3.drew.alloc (.cells [.bool true, .int .u32 ad, .int .u32 dv, .bool false, .int .u32 0].toArray 68)) ∧ Blk (W3.drew.alloc (.cells [.bool true, .int .u32 ad, .int .u32 dv, .bool false, .int .u32 0].toArray 68)) tb #[.bool true, .int .u32 ad, .int .u32 dv, .bool false, .int .u32 0] 68) :=
      ⟨(HM3.out.1.below (w' := W3.drew) ⟨rfl, rfl, rfl, Nat.le_refl _, fun _ _ => rfl⟩).below ((Below.refl _ _).alloc (Nat.le_refl _) _), HM3.out.2.1.drew.alloc _, (HM3.out.2.2.1 : Blk W3.drew tb _ 68).alloc _⟩
    have HSW : Hid (Sl (W3.drew.alloc (.cells [.bool true, .int .u32 ad, .int .u32 dv, .bool false, .int .u32 0].toArray 68)) (.slice ga gn gc) 68 5 gn (M.log.flatMap trow)) := by
      have h9 := HMA.out.1.log
      rw [show ({ M with pc := pc1, m := mw } : IM).log.length = gn from HGN.out.1] at h9
      exact h9
    have HTB : Hid (w0.heap.size ≤ tb ∧ tb < W3.heap.size) := ⟨HM3.out.2.2.2, HM3.out.2.2.1.lt⟩
    refine wp_region_float [0, 1, 2, 3, 4, 5] [6, 7, 8, 9, 10] [0, 1, 2, 3] mixed (fun ω => ω.cell? ⟨b, 21, none⟩ = some (.slice ga gn gc) ∧ Blk ω tb #[.bool true, .int .u32 ad, .int .u32 dv, .bool false, .int .u32 0] 68) (by kernel_rfl) rfl (by kernel_rfl) ⟨HM3.out.1.blk.cell 21, HM3.out.2.2.1⟩ ?_
    refine wpFl_op _ _ _ _ rfl rfl (fun ω hj => by go_simp; rfl) ?_
    simp only [List.getElem_toArray, List.getElem_cons_succ, List.getElem_cons_zero, Act.put, List.setIfInBounds_toArray, List.set_cons_succ, List.set_cons_zero]
    refine wpFl_op _ _ _ _ rfl rfl (fun ω hj => by go_simp; rfl) ?_
    simp only [List.getElem_toArray, List.getElem_cons_succ, List.getElem_cons_zero, Act.put, List.setIfInBounds_toArray, List.set_cons_succ, List.set_cons_zero]
    refine wpFl_op _ _ _ _ rfl rfl (fun ω hj => by go_simp; rfl) ?_
    simp only [List.getElem_toArray, List.getElem_cons_succ, List.getElem_cons_zero, Act.put, List.setIfInBounds_toArray, List.set_cons_succ, List.set_cons_zero]
    refine wpFl_op _ _ _ _ rfl rfl (fun ω hj => by go_simp; rfl) ?_
    simp only [List.getElem_toArray, List.getElem_cons_succ, List.getElem_cons_zero, Act.put, List.setIfInBounds_toArray, List.set_cons_succ, List.set_cons_zero]
    refine wpFl_op _ _ _ _ rfl rfl (fun ω hj => by have q := (hj rfl).1; go_simp; rfl) ?_
    simp only [List.getElem_toArray, List.getElem_cons_succ, List.getElem_cons_zero, Act.put, List.setIfInBounds_toArray, List.set_cons_succ, List.set_cons_zero]
    refine wpFl_op _ _ _ _ rfl rfl (fun ω hj => by
      have q0 : ω.cell? ⟨tb, 0, none⟩ = some (.bool true) := (hj rfl).2.cell 0
      have q1 : ω.cell? ⟨tb, 1, none⟩ = some (.int .u32 ad) := (hj rfl).2.cell 1
      have q2 : ω.cell? ⟨tb, 2, none⟩ = some (.int .u32 dv) := (hj rfl).2.cell 2
      have q3 : ω.cell? ⟨tb, 3, none⟩ = some (.bool false) := (hj rfl).2.cell 3
      have q4 : ω.cell? ⟨tb, 4, none⟩ = some (.int .u32 0) := (hj rfl).2.cell 4
      go_simp; rfl) ?_
    simp only [List.getElem_toArray, List.getElem_cons_succ, List.getElem_cons_zero, Act.put, List.setIfInBounds_toArray, List.set_cons_succ, List.set_cons_zero]
    refine wpFl_nil _ _ ?_
    refine wpCh_one _ _ _ _ rfl ?_
    simp only [List.getElem_toArray, List.getElem_cons_succ, List.getElem_cons_zero, Act.put, List.setIfInBounds_toArray, List.set_cons_succ, List.set_cons_zero]
    go_wp2_with fail
    refine ⟨⟨HMA.out.1.blk.cell 21, HMA.out.2.2⟩, ?_⟩
    refine wpCh_rest _ _ _ _ [_, _, _, _] _ _ rfl (by kernel_rfl) ?_
    simp only [List.getElem_toArray, List.getElem_cons_succ, List.getElem_cons_zero, Act.put, List.setIfInBounds_toArray, List.set_cons_succ, List.set_cons_zero]
    go_wp2_with (at_builtin; (refine wpList_append_sl _ rfl (.tmp 309) (.tmp 311) 39 rfl 68 i0 (.agg #[.bool false, .int .u32 0, .int .u32 0, .bool false, .int .u32 0]) 5 20 Try.underlying39 hinf hz0 hz1 hz2 rfl (by decide) _ _ _ rfl HSW.out ⟨W3.drew.heap.size, 0, none⟩ 1 1 [.bool true, .int .u32 ad, .int .u32 dv, .bool false, .int .u32 0] rfl rfl ?k1 ?k2 ?k3 ?k4 ?_))
    case k1 => exact cells_new _ _ _ _ rfl
    case k2 => intro v hv; simp at hv; rcases hv with rfl | rfl | rfl | rfl | rfl <;> rfl
    case k3 => unfold maxLen; have := HGN.out.2; omega
    case k4 => have := HGN.out.2; omega
    intro v' w4 hsl hgr hnew
    obtain ⟨ba, bo, gc2, rfl, hq1, hq2⟩ := hsl.form (by omega)
    obtain ⟨ga2, hga2⟩ : ∃ x, some (⟨ba, bo, none⟩ : Addr) = x := ⟨_, rfl⟩
    rw [hga2] at hsl hnew ⊢
    have hpush := MR.push (M' := { { M with pc := pc1, m := mw } with log := M.log ++ [⟨true, ad, dv, false, 0⟩] }) (t := ⟨true, ad, dv, false, 0⟩) HMA.out.1 hgr rfl rfl (by rw [show ({ M with pc := pc1, m := mw } : IM).log.length = gn from HGN.out.1]; exact hsl)
    have hgo : ∀ k, ((.slice ga gn gc) : Value).ownBlock = some k → k < w0.heap.size := fun k hk => HLT.out k (.inr (.inr hk))
    have fr4 : Fr (KM b mm (.slice ga gn gc)) w0 w4 := HMA.out.2.1.grown hgr (fun k _ e => .inr (.inr e))
    have ht4 : Blk w4 tb #[.bool true, .int .u32 ad, .int .u32 dv, .bool false, .int .u32 0] 68 := (hgr.block tb HMA.out.2.2.lt (fun e => by have := hgo tb e.symm; have := HTB.out.1; omega)).trans HMA.out.2.2
    obtain ⟨u4, hu4, hl4⟩ := hpush.2.out
    have hne : tb ≠ b := fun e => by have := HLT.out b (.inl rfl); have := HTB.out.1; omega
    have z3 : u4.cell? ⟨tb, 3, none⟩ = some (.bool false) := by
      have h8 : w4.cell? ⟨tb, 3, none⟩ = some (.bool false) := ht4.cell 3
      rw [hu4, pcne hne] at h8
      exact h8
    have z4 : u4.cell? ⟨tb, 4, none⟩ = some (.int .u32 0) := by
      have h8 : w4.cell? ⟨tb, 4, none⟩ = some (.int .u32 0) := ht4.cell 4
      rw [hu4, pcne hne] at h8
      exact h8
    have HFIN2 : Hid (∀ (cs' : Array Value) (M2 : IM), cs' = mV (.slice (some ⟨pb, po, none⟩) pn pcap) mm M2 (.slice ga2 (gn + 1) gc2) → M2.m = ({ M with pc := pc1, m := mw } : IM).m → M2.log = M.log ++ [⟨true, ad, dv, false, 0⟩] → MPost w0 b mm (.slice (some ⟨pb, po, none⟩) pn pcap) (.slice ga gn gc) prog M2 (put u4 b cs' 46) ∧ MPost w0 b mm (.slice (some ⟨pb, po, none⟩) pn pcap) (.slice ga gn gc) prog M2 (put u4 b cs' 46).drew) := fun cs' M2 e1 e2 e3 => by
      have h9 := hpush.1
      rw [hu4, put_put] at h9
      have h8 := h9.row M2 e2 e3
      rw [put_put, ← e1] at h8
      have f8 := fr4.put (b := b) (fun _ => .inl rfl) cs' 46
      rw [hu4, put_put] at f8
      have ho : ∀ k, (Value.slice ga2 (gn + 1) gc2).ownBlock = some k → ((.slice ga gn gc) : Value).ownBlock = some k ∨ w0.heap.size ≤ k := fun k hk => by
        rcases hnew k hk with q | q
        · exact .inl q
        · right
          have h2 := HTB.out
          have h3 := HM3.out.2.1.size
          have q2 : W3.heap.size + 1 ≤ k := by first | exact q | (simp at q; exact q)
          omega
      exact ⟨⟨_, h8, f8, ho⟩, ⟨_, h8.below ⟨rfl, rfl, rfl, Nat.le_refl _, fun _ _ => rfl⟩, f8.drew, ho⟩⟩
    clear hpush hsl hgr hnew hq1 hq2 hga2 HSW HMA HM3 fr4 ht4 hgo hinf hz0 hz1 hz2
    have hu4' : w4 = put u4 b #[.slice (some ⟨pb, po, none⟩) pn pcap, .map (some mm), .int .u32 (M.r 0), .int .u32 (M.r 1), .int .u32 (M.r 2), .int .u32 (M.r 3), .int .u32 (M.r 4), .int .u32 (M.r 5), .int .u32 (M.r 6), .int .u32 (M.r 7), .int .u32 (M.r 8), .int .u32 (M.r 9), .int .u32 (M.r 10), .int .u32 (M.r 11), .int .u32 (M.r 12), .int .u32 (M.r 13), .int .u32 (M.r 14), .int .u32 (M.r 15), .int .u32 pc1, .bool false, .bool false, .slice ga gn gc] 46 := by
      rw [hu4]
      unfold mV
      simp only [HHT.out.1, HHT.out.2]
    clear hu4
    subst hu4'
    clear z4
    go_wp2_with fail
    exact bodyPost_end (v := .tuple #[]) (results_none rfl _ _ _) rfl ⟨rfl, by rw [HIT.out, HW0.out]; exact (HFIN2.out _ { M with m := mw, pc := pc1, tra := false, log := M.log ++ [⟨true, ad, dv, false, 0⟩] } (by unfold mV; simp only [HHT.out.1]) rfl rfl).1⟩
end Go.Proofs.Qxb6500749a
