import Derived.Test.Qxb6500749aMs0
namespace Go.Proofs.Qxb6500749a
open Go.RowKit
attribute [local go_sem] put_size put_cell_same put_cell_ne put_frozen_same put_frozen_ne put_setCell_same put_setCell_ne put_drew
attribute [local go_sem] drewN_setCell drewN_alloc drewN_put
/-! ### The interpreter's step: arms 15 and 16 -/
set_option linter.unusedVariables false in
set_option linter.unusedSimpArgs false in
set_option maxRecDepth 100000 in
set_option maxHeartbeats 16000000 in
theorem mst5 (b mm : Nat) (pa : Option Addr) (pn pcap : Nat) (ga : Option Addr) (gn gc : Nat) (prog : List Int) (M : IM) (hM : M.Ok) (hpl : prog.length = pn) (hpn : pn ≤ 64) (hpw : ∀ x ∈ prog, W32 x) (hg : M.log.length = gn) (hgn : gn < 1000000000) (hh : M.hal = false) (ht : M.tra = false) (hop : (decF (fetF prog M.pc)).op = 15 ∨ (decF (fetF prog M.pc)).op = 16) (w : World) (h : MR w b mm (.slice pa pn pcap) (.slice ga gn gc) prog M) :
    Calls Try.prog 15 #[.pointer (some ⟨b, 0, none⟩)] w fun e w' => e = .returned (.tuple #[]) ∧ MPost w b mm (.slice pa pn pcap) (.slice ga gn gc) prog (itI M (decF (fetF prog M.pc))) w' := by
  obtain ⟨u9, hu9, hl9⟩ := h.blk.out
  subst hu9
  have hlt : M.pc < (pn : Nat) := by
    by_cases q : M.pc < (pn : Nat)
    · exact q
    · exfalso
      have e : fetF prog M.pc = 4294967295 := by unfold fetF; rw [hpl, if_neg q]
      rw [e] at hop
      have : (decF 4294967295).op = 255 := rfl
      rw [this] at hop
      omega
  have hp0 := hM.pc.1
  obtain ⟨p, hpp⟩ : ∃ p : Nat, M.pc = (p : Nat) := Int.eq_ofNat_of_zero_le hp0
  have hpn2 : p < pn := by omega
  obtain ⟨pb, po, pc', epa, _, hpbl⟩ := h.prog.form (by omega)
  injection epa with epa e2 e3
  subst epa
  subst e3
  obtain ⟨x, hx⟩ : ∃ x, fetF prog M.pc = x := ⟨_, rfl⟩
  have hxx := fet_at (prog := prog) (p := p) (by omega) hpw
  rw [← hpp, hx] at hxx
  have cx : (put u9 b (mV (.slice (some ⟨pb, po, none⟩) pn pcap) mm M (.slice ga gn gc)) 46).cell? ⟨pb, po + p, none⟩ = some (.int .u32 x) := by
    rw [h.prog.cell rfl p (by simp [prow]; omega)]
    unfold prow
    rw [List.getElem?_map, hxx.1]
    rfl
  rw [hx] at hop ⊢
  have hxw := hxx.2
  have hx0 := hxw.1
  have hx1 := hxw.2
  obtain ⟨rd, hrd⟩ : ∃ rd, (decF x).rd = rd := ⟨_, rfl⟩
  obtain ⟨ra, hra⟩ : ∃ ra, (decF x).ra = ra := ⟨_, rfl⟩
  obtain ⟨rb, hrb⟩ : ∃ rb, (decF x).rb = rb := ⟨_, rfl⟩
  have hrd' : (x / 1048576 % 16).toNat = rd := hrd
  have hra' : (x / 65536 % 16).toNat = ra := hra
  have hrb' : (x / 4096 % 16).toNat = rb := hrb
  have q1 : x.tdiv 1048576 = x / 1048576 := Int.tdiv_eq_ediv_of_nonneg hx0
  have q2 : x.tdiv 65536 = x / 65536 := Int.tdiv_eq_ediv_of_nonneg hx0
  have q3 : x.tdiv 4096 = x / 4096 := Int.tdiv_eq_ediv_of_nonneg hx0
  have q4 : x.tdiv 16777216 = x / 16777216 := Int.tdiv_eq_ediv_of_nonneg hx0
  have r1 : (x / 1048576) % 4294967296 = x / 1048576 := by omega
  have r2 : (x / 65536) % 4294967296 = x / 65536 := by omega
  have r3 : (x / 4096) % 4294967296 = x / 4096 := by omega
  have m1 : (x / 1048576).tmod 16 = ((rd : Nat) : Int) := by rw [Int.tmod_eq_emod_of_nonneg (by omega)]; omega
  have m2 : (x / 65536).tmod 16 = ((ra : Nat) : Int) := by rw [Int.tmod_eq_emod_of_nonneg (by omega)]; omega
  have m3 : (x / 4096).tmod 16 = ((rb : Nat) : Int) := by rw [Int.tmod_eq_emod_of_nonneg (by omega)]; omega
  have k1 : ((rd : Nat) : Int) % 4294967296 = ((rd : Nat) : Int) := by omega
  have k2 : ((ra : Nat) : Int) % 4294967296 = ((ra : Nat) : Int) := by omega
  have k3 : ((rb : Nat) : Int) % 4294967296 = ((rb : Nat) : Int) := by omega
  have l1 : ((rd : Nat) : Int) < 16 := by omega
  have l2 : ((ra : Nat) : Int) < 16 := by omega
  have l3 : ((rb : Nat) : Int) < 16 := by omega
  have HRD : Hid (rd < 16 ∧ ra < 16 ∧ rb < 16) := ⟨by omega, by omega, by omega⟩
  obtain ⟨i12, hi12⟩ : ∃ i, (decF x).i12 = i := ⟨_, rfl⟩
  obtain ⟨i16, hi16⟩ : ∃ i, (decF x).i16 = i := ⟨_, rfl⟩
  have HS12 : Hid (∀ q : World, Calls Try.prog 37 #[.int .u32 x, .int .i64 12] q fun e w' => e = .returned (.int .u32 i12) ∧ w' = q) := fun q => by rw [← hi12]; exact signed12 x hxw q
  have HS16 : Hid (∀ q : World, Calls Try.prog 37 #[.int .u32 x, .int .i64 16] q fun e w' => e = .returned (.int .u32 i16) ∧ w' = q) := fun q => by rw [← hi16]; exact signed16 x hxw q
  have hia : (2 + ra) = (2 + ra) := rfl
  have HMV : Hid (mV (.slice (some ⟨pb, po, none⟩) pn pcap) mm M (.slice ga gn gc) = #[.slice (some ⟨pb, po, none⟩) pn pcap, .map (some mm), .int .u32 (M.r 0), .int .u32 (M.r 1), .int .u32 (M.r 2), .int .u32 (M.r 3), .int .u32 (M.r 4), .int .u32 (M.r 5), .int .u32 (M.r 6), .int .u32 (M.r 7), .int .u32 (M.r 8), .int .u32 (M.r 9), .int .u32 (M.r 10), .int .u32 (M.r 11), .int .u32 (M.r 12), .int .u32 (M.r 13), .int .u32 (M.r 14), .int .u32 (M.r 15), .int .u32 M.pc, .bool false, .bool false, .slice ga gn gc]) := by unfold Hid mV; rw [hh, ht]
  obtain ⟨va, hva⟩ : ∃ va, M.r ra = va := ⟨_, rfl⟩
  obtain ⟨vb, hvb⟩ : ∃ vb, M.r rb = vb := ⟨_, rfl⟩
  have ga1 : (#[.slice (some ⟨pb, po, none⟩) pn pcap, .map (some mm), .int .u32 (M.r 0), .int .u32 (M.r 1), .int .u32 (M.r 2), .int .u32 (M.r 3), .int .u32 (M.r 4), .int .u32 (M.r 5), .int .u32 (M.r 6), .int .u32 (M.r 7), .int .u32 (M.r 8), .int .u32 (M.r 9), .int .u32 (M.r 10), .int .u32 (M.r 11), .int .u32 (M.r 12), .int .u32 (M.r 13), .int .u32 (M.r 14), .int .u32 (M.r 15), .int .u32 M.pc, .bool false, .bool false, .slice ga gn gc] : Array Value)[2 + ra]? = some (.int .u32 va) := by rw [← HMV.out, mV_reg _ _ _ _ _ HRD.out.2.1, hva]
  have gb1 : (#[.slice (some ⟨pb, po, none⟩) pn pcap, .map (some mm), .int .u32 (M.r 0), .int .u32 (M.r 1), .int .u32 (M.r 2), .int .u32 (M.r 3), .int .u32 (M.r 4), .int .u32 (M.r 5), .int .u32 (M.r 6), .int .u32 (M.r 7), .int .u32 (M.r 8), .int .u32 (M.r 9), .int .u32 (M.r 10), .int .u32 (M.r 11), .int .u32 (M.r 12), .int .u32 (M.r 13), .int .u32 (M.r 14), .int .u32 (M.r 15), .int .u32 M.pc, .bool false, .bool false, .slice ga gn gc] : Array Value)[2 + rb]? = some (.int .u32 vb) := by rw [← HMV.out, mV_reg _ _ _ _ _ HRD.out.2.2, hvb]
  have HMR := hid_of h
  have HFIN : Hid (∀ (n : Nat) (cs' : Array Value) (M' : IM), cs' = mV (.slice (some ⟨pb, po, none⟩) pn pcap) mm M' (.slice ga gn gc) → M'.m = M.m → M'.log = M.log → MPost (put u9 b #[.slice (some ⟨pb, po, none⟩) pn pcap, .map (some mm), .int .u32 (M.r 0), .int .u32 (M.r 1), .int .u32 (M.r 2), .int .u32 (M.r 3), .int .u32 (M.r 4), .int .u32 (M.r 5), .int .u32 (M.r 6), .int .u32 (M.r 7), .int .u32 (M.r 8), .int .u32 (M.r 9), .int .u32 (M.r 10), .int .u32 (M.r 11), .int .u32 (M.r 12), .int .u32 (M.r 13), .int .u32 (M.r 14), .int .u32 (M.r 15), .int .u32 M.pc, .bool false, .bool false, .slice ga gn gc] 46) b mm (.slice (some ⟨pb, po, none⟩) pn pcap) (.slice ga gn gc) prog M' ((put u9 b cs' 46).drewN n)) := fun n cs' M' e1 e2 e3 => by rw [← HMV.out]; exact mrow HMR.out n cs' M' e1 e2 e3
  have HD : Hid (decF x = ⟨(decF x).op, rd, ra, rb, i12, i16⟩) := by unfold Hid; rw [← hrd, ← hra, ← hrb, ← hi12, ← hi16]
  have HV : Hid (M.r ra = va ∧ M.r rb = vb) := ⟨hva, hvb⟩
  have HHT : Hid (M.hal = false ∧ M.tra = false) := ⟨hh, ht⟩
  have HWV : Hid (W32 va ∧ W32 vb) := ⟨by rw [← hva]; exact hM.r _, by rw [← hvb]; exact hM.r _⟩
  have hopx : (decF x).op = x / 16777216 := rfl
  obtain ⟨op, hope⟩ : ∃ op, (decF x).op = op := ⟨_, rfl⟩
  have q4' : x / 16777216 = op := by rw [← hope]; rfl
  rw [hope] at hop HD
  rw [HD.out]
  rw [HMV.out] at cx ⊢
  have hpw2 : IntKind.i64.wrap M.pc = M.pc := by rw [hpp]; simp [IntKind.wrap, IntKind.bits, IntKind.signed]; omega
  rw [hpp] at hlt
  obtain ⟨pcv, hpcv⟩ : ∃ v, M.pc = v := ⟨_, rfl⟩
  have HPC : Hid (M.pc = (p : Nat)) := hpp
  have HLL : Hid (p < pn) := hpn2
  clear h hxx hxw hx0 hx1 hrd' hra' hrb' hrd hra hrb hi12 hi16 hva hvb hia hpl hpw hg hgn hM hp0 e2 hx hope hopx hpcv hpw2
  have hlt2 : ((p : Nat) : Int) < (pn : Nat) := hlt
  have hpw3 : IntKind.i64.wrap ((p : Nat) : Int) = ((p : Nat) : Int) := by have := HLL.out; simp [IntKind.wrap, IntKind.bits, IntKind.signed]; omega
  rw [HPC.out] at ga1 gb1 HFIN cx ⊢
  go_enter Try.func15, Try.ntmps15
  go_upto_region 2 with fail
  go_quiet (fail)
  go_upto_region 3 with fail
  go_quiet (fail)
  go_upto_region 5 with fail
  go_quiet (fail)
  go_upto_region 6 with fail
  clear cx ga1 gb1 hlt hlt2 hpw3
  go_wp2_with fail
  refine (HS12.out _).mono ?_
  rintro e w1 ⟨rfl, hw1⟩
  obtain rfl := hw1.symm
  clear hw1 HS12
  go_wp2_with fail
  refine (HS16.out _).mono ?_
  rintro e w1 ⟨rfl, hw1⟩
  obtain rfl := hw1.symm
  clear hw1 HS16
  have hinc : (((p : Nat) : Int) + 1) % 4294967296 = ((p : Nat) : Int) + 1 := by have := HLL.out; omega
  have hopw : op % 256 = op := by rcases hop with hop | hop <;> omega
  have hopw2 : op % 4294967296 = op := by rcases hop with hop | hop <;> omega
  obtain ⟨pc1, hpc1⟩ : ∃ v, ((p : Nat) : Int) + 1 = v := ⟨_, rfl⟩
  have HPC1 : Hid ((M.pc + 1) % 4294967296 = pc1) := by unfold Hid; rw [HPC.out, hinc]; exact hpc1
  have HP1 : Hid (((p : Nat) : Int) + 1 = pc1) := hpc1
  go_upto_region 11 with fail
  clear q1 q2 q3 q4 r1 r2 r3 m1 m2 m3 hopw hopw2 q4' hpc1 hinc
  rcases hop with hop | hop
  · subst hop
    obtain ⟨z, hz⟩ : ∃ z, decide (wrap32 va < wrap32 vb) = z := ⟨_, rfl⟩
    obtain ⟨vv, hvv⟩ : ∃ v, (if wrap32 va < wrap32 vb then (1 : Int) else 0) = v := ⟨_, rfl⟩
    have HONE : Hid (∀ W : World, Calls Try.prog 38 #[.bool z] W fun e w' => e = .returned (.int .u32 vv) ∧ w' = W) := fun W => by
      have := one_any z W
      have e : (if z = true then (1 : Int) else 0) = vv := by rw [← hvv, ← hz]; simp
      rw [e] at this
      exact this
    have HONE2 : Hid (∀ W : World, Calls Try.prog 38 #[.bool (decide (wrap32 va < wrap32 vb))] W fun e w' => e = .returned (.int .u32 vv) ∧ w' = W) := fun W => by rw [hz]; exact HONE.out W
    have HIT : Hid (itI M ⟨15, rd, ra, rb, i12, i16⟩ = { M with r := upd M.r rd (vv), pc := pc1 }) := by
      unfold Hid itI
      simp only []
      rw [HPC1.out, ← hvv]; simp [HV.out.1, HV.out.2, aluF]
    have hget : (#[.slice (some ⟨pb, po, none⟩) pn pcap, .map (some mm), .int .u32 (M.r 0), .int .u32 (M.r 1), .int .u32 (M.r 2), .int .u32 (M.r 3), .int .u32 (M.r 4), .int .u32 (M.r 5), .int .u32 (M.r 6), .int .u32 (M.r 7), .int .u32 (M.r 8), .int .u32 (M.r 9), .int .u32 (M.r 10), .int .u32 (M.r 11), .int .u32 (M.r 12), .int .u32 (M.r 13), .int .u32 (M.r 14), .int .u32 (M.r 15), .int .u32 pc1, .bool false, .bool false, .slice ga gn gc] : Array Value)[2 + rd]? = some (.int .u32 (M.r rd)) := by
      have := mV_reg (.slice (some ⟨pb, po, none⟩) pn pcap) mm { M with pc := pc1 } (.slice ga gn gc) rd HRD.out.1
      unfold mV at this
      rw [HHT.out.1, HHT.out.2] at this
      exact this
    have HSET : Hid (∀ v : Int, (([.slice (some ⟨pb, po, none⟩) pn pcap, .map (some mm), .int .u32 (M.r 0), .int .u32 (M.r 1), .int .u32 (M.r 2), .int .u32 (M.r 3), .int .u32 (M.r 4), .int .u32 (M.r 5), .int .u32 (M.r 6), .int .u32 (M.r 7), .int .u32 (M.r 8), .int .u32 (M.r 9), .int .u32 (M.r 10), .int .u32 (M.r 11), .int .u32 (M.r 12), .int .u32 (M.r 13), .int .u32 (M.r 14), .int .u32 (M.r 15), .int .u32 pc1, .bool false, .bool false, .slice ga gn gc] : List Value).set (2 + rd) (.int .u32 v)).toArray = mV (.slice (some ⟨pb, po, none⟩) pn pcap) mm { M with r := upd M.r rd v, pc := pc1 } (.slice ga gn gc)) := fun v => by
      have := mV_set (.slice (some ⟨pb, po, none⟩) pn pcap) mm { M with pc := pc1 } (.slice ga gn gc) rd HRD.out.1 v
      rw [← this]
      unfold mV
      rw [HHT.out.1, HHT.out.2, List.setIfInBounds_toArray]
    clear hvv
    go_upto_region 41 with fail
    refine wp_region_float [0, 1, 2, 3, 4, 5, 6, 8, 9] [7, 10, 11] [0, 1, 2, 3, 4, 5, 6, 8, 9] mixed (fun _ => True) (by kernel_rfl) rfl (by kernel_rfl) trivial ?_
    refine wpFl_op _ _ _ _ rfl rfl (fun ω hj => by go_simp; rfl) ?_
    simp only [List.getElem_toArray, List.getElem_cons_succ, List.getElem_cons_zero, Act.put, List.setIfInBounds_toArray, List.set_cons_succ, List.set_cons_zero]
    refine wpFl_op _ _ _ _ rfl rfl (fun ω hj => by go_simp; rfl) ?_
    simp only [List.getElem_toArray, List.getElem_cons_succ, List.getElem_cons_zero, Act.put, List.setIfInBounds_toArray, List.set_cons_succ, List.set_cons_zero]
    refine wpFl_op _ _ _ _ rfl rfl (fun ω hj => by go_simp; rfl) ?_
    simp only [List.getElem_toArray, List.getElem_cons_succ, List.getElem_cons_zero, Act.put, List.setIfInBounds_toArray, List.set_cons_succ, List.set_cons_zero]
    refine wpFl_op _ _ _ _ rfl rfl (fun ω hj => by go_simp; rfl) ?_
    simp only [List.getElem_toArray, List.getElem_cons_succ, List.getElem_cons_zero, Act.put, List.setIfInBounds_toArray, List.set_cons_succ, List.set_cons_zero]
    refine wpFl_op _ _ _ _ rfl rfl (fun ω hj => by go_simp; rfl) ?_
    simp only [List.getElem_toArray, List.getElem_cons_succ, List.getElem_cons_zero, Act.put, List.setIfInBounds_toArray, List.set_cons_succ, List.set_cons_zero]
    refine wpFl_op _ _ _ _ rfl rfl (fun ω hj => by go_simp; rfl) ?_
    simp only [List.getElem_toArray, List.getElem_cons_succ, List.getElem_cons_zero, Act.put, List.setIfInBounds_toArray, List.set_cons_succ, List.set_cons_zero]
    refine wpFl_op _ _ _ _ rfl rfl (fun ω hj => by go_simp; rfl) ?_
    simp only [List.getElem_toArray, List.getElem_cons_succ, List.getElem_cons_zero, Act.put, List.setIfInBounds_toArray, List.set_cons_succ, List.set_cons_zero]
    refine wpFl_op _ _ _ _ rfl rfl (fun ω hj => by go_simp; rfl) ?_
    simp only [List.getElem_toArray, List.getElem_cons_succ, List.getElem_cons_zero, Act.put, List.setIfInBounds_toArray, List.set_cons_succ, List.set_cons_zero]
    refine wpFl_op _ _ _ _ rfl rfl (fun ω hj => by go_simp; rfl) ?_
    simp only [List.getElem_toArray, List.getElem_cons_succ, List.getElem_cons_zero, Act.put, List.setIfInBounds_toArray, List.set_cons_succ, List.set_cons_zero]
    refine wpFl_nil _ _ ?_
    refine wpCh_rest _ _ _ _ [_, _, _] _ _ rfl (by kernel_rfl) ?_
    simp only [List.getElem_toArray, List.getElem_cons_succ, List.getElem_cons_zero, Act.put, List.setIfInBounds_toArray, List.set_cons_succ, List.set_cons_zero]
    go_wp2_with fail
    first
    | refine (HONE.out _).mono ?_
    | refine (HONE2.out _).mono ?_
    rintro e w1 ⟨rfl, hw1⟩
    obtain rfl := hw1.symm
    clear hw1 HONE HONE2
    go_wp2_with fail
    exact bodyPost_end (v := .tuple #[]) (results_none rfl _ _ _) rfl ⟨rfl, by rw [HIT.out]; exact HFIN.out _ _ _ (HSET.out _) rfl rfl⟩
  · subst hop
    obtain ⟨z, hz⟩ : ∃ z, decide (va < vb) = z := ⟨_, rfl⟩
    obtain ⟨vv, hvv⟩ : ∃ v, (if va < vb then (1 : Int) else 0) = v := ⟨_, rfl⟩
    have HONE : Hid (∀ W : World, Calls Try.prog 38 #[.bool z] W fun e w' => e = .returned (.int .u32 vv) ∧ w' = W) := fun W => by
      have := one_any z W
      have e : (if z = true then (1 : Int) else 0) = vv := by rw [← hvv, ← hz]; simp
      rw [e] at this
      exact this
    have HONE2 : Hid (∀ W : World, Calls Try.prog 38 #[.bool (decide (va < vb))] W fun e w' => e = .returned (.int .u32 vv) ∧ w' = W) := fun W => by rw [hz]; exact HONE.out W
    have HIT : Hid (itI M ⟨16, rd, ra, rb, i12, i16⟩ = { M with r := upd M.r rd (vv), pc := pc1 }) := by
      unfold Hid itI
      simp only []
      rw [HPC1.out, ← hvv]; simp [HV.out.1, HV.out.2, aluF]
    have hget : (#[.slice (some ⟨pb, po, none⟩) pn pcap, .map (some mm), .int .u32 (M.r 0), .int .u32 (M.r 1), .int .u32 (M.r 2), .int .u32 (M.r 3), .int .u32 (M.r 4), .int .u32 (M.r 5), .int .u32 (M.r 6), .int .u32 (M.r 7), .int .u32 (M.r 8), .int .u32 (M.r 9), .int .u32 (M.r 10), .int .u32 (M.r 11), .int .u32 (M.r 12), .int .u32 (M.r 13), .int .u32 (M.r 14), .int .u32 (M.r 15), .int .u32 pc1, .bool false, .bool false, .slice ga gn gc] : Array Value)[2 + rd]? = some (.int .u32 (M.r rd)) := by
      have := mV_reg (.slice (some ⟨pb, po, none⟩) pn pcap) mm { M with pc := pc1 } (.slice ga gn gc) rd HRD.out.1
      unfold mV at this
      rw [HHT.out.1, HHT.out.2] at this
      exact this
    have HSET : Hid (∀ v : Int, (([.slice (some ⟨pb, po, none⟩) pn pcap, .map (some mm), .int .u32 (M.r 0), .int .u32 (M.r 1), .int .u32 (M.r 2), .int .u32 (M.r 3), .int .u32 (M.r 4), .int .u32 (M.r 5), .int .u32 (M.r 6), .int .u32 (M.r 7), .int .u32 (M.r 8), .int .u32 (M.r 9), .int .u32 (M.r 10), .int .u32 (M.r 11), .int .u32 (M.r 12), .int .u32 (M.r 13), .int .u32 (M.r 14), .int .u32 (M.r 15), .int .u32 pc1, .bool false, .bool false, .slice ga gn gc] : List Value).set (2 + rd) (.int .u32 v)).toArray = mV (.slice (some ⟨pb, po, none⟩) pn pcap) mm { M with r := upd M.r rd v, pc := pc1 } (.slice ga gn gc)) := fun v => by
      have := mV_set (.slice (some ⟨pb, po, none⟩) pn pcap) mm { M with pc := pc1 } (.slice ga gn gc) rd HRD.out.1 v
      rw [← this]
      unfold mV
      rw [HHT.out.1, HHT.out.2, List.setIfInBounds_toArray]
    clear hvv
    go_upto_region 43 with fail
    refine wp_region_float [0, 1, 2, 3, 4, 6, 7] [5, 8, 9] [0, 1, 2, 3, 4, 6, 7] mixed (fun _ => True) (by kernel_rfl) rfl (by kernel_rfl) trivial ?_
    refine wpFl_op _ _ _ _ rfl rfl (fun ω hj => by go_simp; rfl) ?_
    simp only [List.getElem_toArray, List.getElem_cons_succ, List.getElem_cons_zero, Act.put, List.setIfInBounds_toArray, List.set_cons_succ, List.set_cons_zero]
    refine wpFl_op _ _ _ _ rfl rfl (fun ω hj => by go_simp; rfl) ?_
    simp only [List.getElem_toArray, List.getElem_cons_succ, List.getElem_cons_zero, Act.put, List.setIfInBounds_toArray, List.set_cons_succ, List.set_cons_zero]
    refine wpFl_op _ _ _ _ rfl rfl (fun ω hj => by go_simp; rfl) ?_
    simp only [List.getElem_toArray, List.getElem_cons_succ, List.getElem_cons_zero, Act.put, List.setIfInBounds_toArray, List.set_cons_succ, List.set_cons_zero]
    refine wpFl_op _ _ _ _ rfl rfl (fun ω hj => by go_simp; rfl) ?_
    simp only [List.getElem_toArray, List.getElem_cons_succ, List.getElem_cons_zero, Act.put, List.setIfInBounds_toArray, List.set_cons_succ, List.set_cons_zero]
    refine wpFl_op _ _ _ _ rfl rfl (fun ω hj => by go_simp; rfl) ?_
    simp only [List.getElem_toArray, List.getElem_cons_succ, List.getElem_cons_zero, Act.put, List.setIfInBounds_toArray, List.set_cons_succ, List.set_cons_zero]
    refine wpFl_op _ _ _ _ rfl rfl (fun ω hj => by go_simp; rfl) ?_
    simp only [List.getElem_toArray, List.getElem_cons_succ, List.getElem_cons_zero, Act.put, List.setIfInBounds_toArray, List.set_cons_succ, List.set_cons_zero]
    refine wpFl_op _ _ _ _ rfl rfl (fun ω hj => by go_simp; rfl) ?_
    simp only [List.getElem_toArray, List.getElem_cons_succ, List.getElem_cons_zero, Act.put, List.setIfInBounds_toArray, List.set_cons_succ, List.set_cons_zero]
    refine wpFl_nil _ _ ?_
    refine wpCh_rest _ _ _ _ [_, _, _] _ _ rfl (by kernel_rfl) ?_
    simp only [List.getElem_toArray, List.getElem_cons_succ, List.getElem_cons_zero, Act.put, List.setIfInBounds_toArray, List.set_cons_succ, List.set_cons_zero]
    go_wp2_with fail
    first
    | refine (HONE.out _).mono ?_
    | refine (HONE2.out _).mono ?_
    rintro e w1 ⟨rfl, hw1⟩
    obtain rfl := hw1.symm
    clear hw1 HONE HONE2
    go_wp2_with fail
    exact bodyPost_end (v := .tuple #[]) (results_none rfl _ _ _) rfl ⟨rfl, by rw [HIT.out]; exact HFIN.out _ _ _ (HSET.out _) rfl rfl⟩
end Go.Proofs.Qxb6500749a
