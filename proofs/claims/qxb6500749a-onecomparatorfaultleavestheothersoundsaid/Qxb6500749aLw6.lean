import Derived.Test.Qxb6500749aIpr
namespace Go.Proofs.Qxb6500749a
open Go.RowKit
attribute [local go_sem] put_size put_cell_same put_cell_ne put_frozen_same put_frozen_ne put_setCell_same put_setCell_ne put_drew
attribute [local go_sem] drewN_setCell drewN_alloc drewN_put
/-! ### Law 6 walked -/
def anyNe (l : List REP) : Bool := l.any fun r => neB r.del r.sha
theorem anyNe_succ {l : List REP} {j : Nat} {r : REP} (h : l[j]? = some r) : anyNe (l.take (j + 1)) = (anyNe (l.take j) || neB r.del r.sha) := by
  unfold anyNe
  rw [List.take_add_one, h]
  simp
theorem anyNe_true {l : List REP} {j : Nat} (h : anyNe (l.take j) = true) : ∃ i, i < j ∧ ∃ r', l[i]? = some r' ∧ neB r'.del r'.sha = true := by
  unfold anyNe at h
  obtain ⟨r, hr, hn⟩ := List.any_eq_true.1 h
  obtain ⟨i, hi⟩ := List.mem_iff_getElem?.1 hr
  rw [List.getElem?_take] at hi
  split at hi
  · rename_i hl; exact ⟨i, hl, r, hi, hn⟩
  · cases hi
def fr6 (a : Option Addr) (n c rg : Nat) (d : Bool) (va : Option Addr) (vn vc j : Nat) (u : Nat → Value) : Act :=
  { tmps := ((.slice a n c) :: (u 1) :: (u 2) :: (.pointer (some ⟨rg, 0, none⟩)) :: (.bool d) :: (u 5) :: (u 6) :: (u 7) :: (u 8) :: (u 9) :: (u 10) :: (u 11) :: (u 12) :: (u 13) :: (u 14) :: (u 15) :: (u 16) :: (u 17) :: (u 18) :: (u 19) :: (u 20) :: (.slice va vn vc) :: (.int .i64 (vn : Nat)) :: (.int .i64 (j : Nat)) :: (u 24) :: (u 25) :: (u 26) :: (u 27) :: (u 28) :: (u 29) :: (u 30) :: (u 31) :: (u 32) :: (u 33) :: (u 34) :: (u 35) :: (u 36) :: (u 37) :: (u 38) :: (u 39) :: (u 40) :: (u 41) :: (u 42) :: (u 43) :: (u 44) :: (u 45) :: (u 46) :: (u 47) :: (u 48) :: (u 49) :: (u 50) :: (u 51) :: (u 52) :: (u 53) :: (u 54) :: (u 55) :: (u 56) :: (u 57) :: (u 58) :: (u 59) :: (u 60) :: (u 61) :: (u 62) :: (u 63) :: (u 64) :: (u 65) :: (u 66) :: (u 67) :: (u 68) :: (u 69) :: (u 70) :: (u 71) :: (u 72) :: (u 73) :: (u 74) :: (u 75) :: (u 76) :: [] : List Value).toArray, defers := [] }
set_option maxRecDepth 100000 in
set_option maxHeartbeats 16000000 in
theorem law6_any (a : Option Addr) (n c : Nat) (s : Nat → OpD) (w : World) (hs : Scr w a n s) :
    Calls Try.prog 6 #[.slice a n c] w fun e w' => e = .returned (.bool true) ∧ Below w.heap.size w w' := by
  by_cases hn : n ≤ 65536
  · have HS := hid_of hs
    have HSM := hid_of (small_yes a n c hn w)
    have HPL := hid_of (play_any a n c s hn true true w hs)
    have hok := plyN_ok s true true n (fun k hk => hs.1 k hk)
    have hok2 := plyN_ok s false false n (fun k hk => hs.1 k hk)
    have HREL := hid_of (rel_play s true true n)
    have HLEN : Hid ((plyN s true true n).reps.length < 1000000000 ∧ (plyN s true true n).uP.log.length < 1000000000 ∧ (plyN s false false n).uP.log.length < 1000000000) := ⟨by have := hok.2; omega, by have := hok.1.uP.glen; have := hok.2; omega, by have := hok2.1.uP.glen; have := hok2.2; omega⟩
    have HNN := hid_of hn
    clear hs hn hok hok2
    go_enter Try.func6, Try.ntmps6
    go_wp2_with fail
    refine HSM.out.mono ?_
    rintro e w0 ⟨rfl, hw0⟩
    obtain rfl := hw0.symm
    clear HSM hw0
    go_wp2_with fail
    refine HPL.out.mono ?_
    rintro e w1 ⟨rfl, own, L, hr1, hb1, ho1, hl1⟩
    have HR1 := hid_of hr1
    have HB1 := hid_of hb1
    have HL1 := hid_of hl1
    clear HPL ho1
    have g4 : w1.cell? ⟨w.heap.size + 5, 4, none⟩ = some (.bool (plyN s true true n).hc) := by rw [← hl1]; exact hr1.rg.1.cell 4
    cases hhc : (plyN s true true n).hc
    · rw [hhc] at g4
      go_wp2_with fail
      go_ret
      exact ⟨rfl, HB1.out⟩
    · rw [hhc] at g4
      obtain ⟨va, vc, hrv⟩ := hr1.reps.1.form'
      obtain ⟨vn, hvn⟩ : ∃ vn, (plyN s true true n).reps.length = vn := ⟨_, rfl⟩
      rw [hvn] at hrv
      have g22 : w1.cell? ⟨w.heap.size + 5, 22, none⟩ = some (.slice va vn vc) := by rw [← hl1, ← hrv]; exact hr1.rg.1.cell 22
      have HRS : Hid (Sl w1 (.slice va vn vc) 51 13 vn ((plyN s true true n).reps.flatMap reprow)) := by
        have h9 := hr1.reps.1
        rw [hrv, hvn] at h9
        exact h9
      have HVN := hid_of hvn
      have hvl : vn < 1000000000 := by rw [← hvn]; exact HLEN.out.1
      have HSO := hid_of (HREL.out.sound hhc)
      have HD2 := hid_of HREL.out.reps.2
      have g6 : w1.cell? ⟨w.heap.size + 5, 6, none⟩ = some (.int .u32 (plyN s true true n).fc.site) := by rw [← hl1]; exact hr1.rg.1.cell 6
      have HG6 := hid_of g6
      have HLT : Hid (w.heap.size + 5 < w1.heap.size) := by rw [← hl1]; exact hr1.rg.1.lt
      clear hr1 hb1 hl1 hrv hvn hhc
      go_wp2_with fail
      clear g4 g22 g6
      refine q_of (Q := fun a => (Code.loop _).wp Try.prog _ a _) (F := fr6 a n c (w.heap.size + 5) false va vn vc 0) (fun u0 => ?_) _ (by kernel_rfl)
      refine wp_loop (fun act wr => ∃ (u : Nat → Value) (j : Nat), act = fr6 a n c (w.heap.size + 5) (anyNe ((plyN s true true n).reps.take j)) va vn vc j u ∧ j ≤ vn ∧ Hid (Below w1.heap.size w1 wr)) (fun act _ => vn - (intOf (act.tmps.getD 23 undef)).toNat) ⟨u0, 0, rfl, Nat.zero_le _, Below.refl _ _⟩ ?_
      rintro act wr ⟨u, j, rfl, hj, HB⟩
      obtain ⟨d, hd⟩ : ∃ d, anyNe ((plyN s true true n).reps.take j) = d := ⟨_, rfl⟩
      have HD := hid_of hd
      rw [hd]
      clear hd
      have hadd : IntKind.i64.wrap (((j : Nat) : Int) + 1) = (j : Nat) + 1 := by simp [IntKind.wrap, IntKind.bits, IntKind.signed]; omega
      by_cases hjn : j < vn
      · have hji : ((j : Nat) : Int) < (vn : Nat) := by omega
        obtain ⟨b1, o1, c1', e1, _, hl1⟩ := HRS.out.form (by omega)
        injection e1 with e1 _ e3
        subst e1; subst e3
        obtain ⟨r, hr⟩ : ∃ r, (plyN s true true n).reps[j]? = some r := ⟨_, List.getElem?_eq_getElem (by rw [HVN.out]; exact hjn)⟩
        have hsu := anyNe_succ hr
        rw [HD.out] at hsu
        obtain ⟨KR, hKR⟩ : ∃ KR : Act → World → Prop, KR = fun a' w' => ((fun act wr => ∃ (u : Nat → Value) (j : Nat), act = fr6 a n c (w.heap.size + 5) (anyNe ((plyN s true true n).reps.take j)) (some ⟨b1, o1, none⟩) vn vc j u ∧ j ≤ vn ∧ Hid (Below w1.heap.size w1 wr)) a' w' ∧ vn - (intOf (a'.tmps.getD 23 undef)).toNat < vn - (intOf ((fr6 a n c (w.heap.size + 5) d (some ⟨b1, o1, none⟩) vn vc j u).tmps.getD 23 undef)).toNat) := ⟨_, rfl⟩
        have HKR : Hid (∀ (act : Act) (w' : World) (d' : Bool), act = fr6 a n c (w.heap.size + 5) d' (some ⟨b1, o1, none⟩) vn vc (j + 1) (fun i => act.tmps.getD i undef) → d' = (d || neB r.del r.sha) → Below w1.heap.size w1 w' → KR act w') := fun act w' d' e hd' hb => by
          rw [hKR]
          refine ⟨⟨_, j + 1, by rw [hsu, ← hd']; exact e, hjn, hb⟩, ?_⟩
          have e1 : act.tmps.getD 23 undef = .int .i64 ((j + 1 : Nat) : Int) := by rw [e]; rfl
          have e2 : (fr6 a n c (w.heap.size + 5) d (some ⟨b1, o1, none⟩) vn vc j u).tmps.getD 23 undef = .int .i64 ((j : Nat) : Int) := rfl
          simp only [e1, e2, intOf]
          omega
        rw [← hKR]
        clear hKR hsu
        have p := fun i hi => (HB.out.cell (p := ⟨b1, o1 + j * 13 + i, none⟩) hl1).trans (Sl.rowc (f := reprow) (m := 13) (fun _ => rfl) HRS.out rfl hr i hi)
        have p0 : wr.cell? ⟨b1, o1 + j * 13, none⟩ = some (.int .u32 r.raw.c) := p 0 (by decide)
        have p1 : wr.cell? ⟨b1, o1 + j * 13 + 1, none⟩ = some (.int .u32 r.raw.a) := p 1 (by decide)
        have p2 : wr.cell? ⟨b1, o1 + j * 13 + 2, none⟩ = some (.int .u32 r.raw.d) := p 2 (by decide)
        have p3 : wr.cell? ⟨b1, o1 + j * 13 + 3, none⟩ = some (.int .u32 r.del.c) := p 3 (by decide)
        have p4 : wr.cell? ⟨b1, o1 + j * 13 + 4, none⟩ = some (.int .u32 r.del.a) := p 4 (by decide)
        have p5 : wr.cell? ⟨b1, o1 + j * 13 + 5, none⟩ = some (.int .u32 r.del.d) := p 5 (by decide)
        have p6 : wr.cell? ⟨b1, o1 + j * 13 + 6, none⟩ = some (.int .u32 r.sha.c) := p 6 (by decide)
        have p7 : wr.cell? ⟨b1, o1 + j * 13 + 7, none⟩ = some (.int .u32 r.sha.a) := p 7 (by decide)
        have p8 : wr.cell? ⟨b1, o1 + j * 13 + 8, none⟩ = some (.int .u32 r.sha.d) := p 8 (by decide)
        have p9 : wr.cell? ⟨b1, o1 + j * 13 + 9, none⟩ = some (.bool r.fa) := p 9 (by decide)
        have p10 : wr.cell? ⟨b1, o1 + j * 13 + 10, none⟩ = some (.bool r.fb) := p 10 (by decide)
        have p11 : wr.cell? ⟨b1, o1 + j * 13 + 11, none⟩ = some (.bool r.al) := p 11 (by decide)
        have p12 : wr.cell? ⟨b1, o1 + j * 13 + 12, none⟩ = some (.bool r.gr) := p 12 (by decide)
        obtain ⟨W, hW⟩ : ∃ W, wr.alloc (.cells #[.int .u32 r.raw.c, .int .u32 r.raw.a, .int .u32 r.raw.d, .int .u32 r.del.c, .int .u32 r.del.a, .int .u32 r.del.d, .int .u32 r.sha.c, .int .u32 r.sha.a, .int .u32 r.sha.d, .bool r.fa, .bool r.fb, .bool r.al, .bool r.gr] 51) = W := ⟨_, rfl⟩
        have hbw : Below wr.heap.size wr W := by rw [← hW]; exact (Below.refl _ _).alloc (Nat.le_refl _) _
        have hop : Blk W wr.heap.size #[.int .u32 r.raw.c, .int .u32 r.raw.a, .int .u32 r.raw.d, .int .u32 r.del.c, .int .u32 r.del.a, .int .u32 r.del.d, .int .u32 r.sha.c, .int .u32 r.sha.a, .int .u32 r.sha.d, .bool r.fa, .bool r.fb, .bool r.al, .bool r.gr] 51 := by rw [← hW]; exact Blk.new _ _ _
        have hbe : Below w1.heap.size w1 W := HB.out.trans (hbw.mono HB.out.size)
        have y3 : W.cell? ⟨wr.heap.size, 3, none⟩ = some (.int .u32 r.del.c) := hop.cell 3
        have y4 : W.cell? ⟨wr.heap.size, 4, none⟩ = some (.int .u32 r.del.a) := hop.cell 4
        have y5 : W.cell? ⟨wr.heap.size, 5, none⟩ = some (.int .u32 r.del.d) := hop.cell 5
        have y6 : W.cell? ⟨wr.heap.size, 6, none⟩ = some (.int .u32 r.sha.c) := hop.cell 6
        have y7 : W.cell? ⟨wr.heap.size, 7, none⟩ = some (.int .u32 r.sha.a) := hop.cell 7
        have y8 : W.cell? ⟨wr.heap.size, 8, none⟩ = some (.int .u32 r.sha.d) := hop.cell 8
        have y9 : W.cell? ⟨wr.heap.size, 9, none⟩ = some (.bool r.fa) := hop.cell 9
        have y10 : W.cell? ⟨wr.heap.size, 10, none⟩ = some (.bool r.fb) := hop.cell 10
        have y11 : W.cell? ⟨wr.heap.size, 11, none⟩ = some (.bool r.al) := hop.cell 11
        have y12 : W.cell? ⟨wr.heap.size, 12, none⟩ = some (.bool r.gr) := hop.cell 12
        have g6 : W.cell? ⟨w.heap.size + 5, 6, none⟩ = some (.int .u32 (plyN s true true n).fc.site) := (hbe.cell HLT.out).trans HG6.out
        have h49 := eq49 r.del r.sha
        have hso := HSO.out r (List.mem_of_getElem? hr)
        have hd2 : d = true ∨ neB r.del r.sha = true → r.al = true ∧ r.gr = false := fun q => by
          refine HD2.out j r hr ?_
          rcases q with q | q
          · rw [← HD.out] at q
            obtain ⟨i, hi, r', h1, h2⟩ := anyNe_true q
            exact ⟨i, by omega, r', h1, h2⟩
          · exact ⟨j, Nat.le_refl _, r, hr, q⟩
        have HBE : Hid (∀ q, Below w1.heap.size w1 (W.drewN q)) := fun q => below_drewN' hbe
        obtain ⟨st, hst⟩ : ∃ st, (plyN s true true n).fc.site = st := ⟨_, rfl⟩
        rw [hst] at g6 hso
        clear hst
        obtain ⟨ne, hne⟩ : ∃ ne, neB r.del r.sha = ne := ⟨_, rfl⟩
        rw [hne] at h49 hso hd2 HKR
        clear hne hr p hbw hop hbe HB HRS
        by_cases h46 : st = 46
        · rw [if_pos h46] at hso
          have h46b : (st == 46) = true := by simpa using h46
          have HSO2 := hid_of hso
          clear hso h46
          cases d
          · cases ne
            · rw [HSO2.out] at y10
              clear hd2 HSO2
              unfold fr6
              go_upto_region 10 with fail
              clear hW p0 p1 p2 p3 p4 p5 p6 p7 p8 p9 p10 p11 p12
              go_wp2_with fail
              exact HKR.out _ _ _ (by kernel_rfl) rfl (HBE.out 0)
            · have hx := hd2 (.inr rfl)
              rw [hx.1] at y11
              rw [hx.2] at y12
              clear hx
              rw [HSO2.out] at y10
              clear hd2 HSO2
              unfold fr6
              go_upto_region 10 with fail
              clear hW p0 p1 p2 p3 p4 p5 p6 p7 p8 p9 p10 p11 p12
              go_wp2_with fail
              exact HKR.out _ _ _ (by kernel_rfl) rfl (HBE.out 0)
          · cases ne
            · have hx := hd2 (.inl rfl)
              rw [hx.1] at y11
              rw [hx.2] at y12
              clear hx
              rw [HSO2.out] at y10
              clear hd2 HSO2
              unfold fr6
              go_upto_region 10 with fail
              clear hW p0 p1 p2 p3 p4 p5 p6 p7 p8 p9 p10 p11 p12
              go_wp2_with fail
              exact HKR.out _ _ _ (by kernel_rfl) rfl (HBE.out 0)
            · have hx := hd2 (.inl rfl)
              rw [hx.1] at y11
              rw [hx.2] at y12
              clear hx
              rw [HSO2.out] at y10
              clear hd2 HSO2
              unfold fr6
              go_upto_region 10 with fail
              clear hW p0 p1 p2 p3 p4 p5 p6 p7 p8 p9 p10 p11 p12
              go_wp2_with fail
              exact HKR.out _ _ _ (by kernel_rfl) rfl (HBE.out 0)
        · rw [if_neg h46] at hso
          have h46b : (st == 46) = false := by simpa using h46
          have HSO2 := hid_of hso
          clear hso h46
          cases d
          · cases ne
            · rw [HSO2.out] at y9
              clear hd2 HSO2
              unfold fr6
              go_upto_region 10 with fail
              clear hW p0 p1 p2 p3 p4 p5 p6 p7 p8 p9 p10 p11 p12
              go_wp2_with fail
              exact HKR.out _ _ _ (by kernel_rfl) rfl (HBE.out 0)
            · have hx := hd2 (.inr rfl)
              rw [hx.1] at y11
              rw [hx.2] at y12
              clear hx
              rw [HSO2.out] at y9
              clear hd2 HSO2
              unfold fr6
              go_upto_region 10 with fail
              clear hW p0 p1 p2 p3 p4 p5 p6 p7 p8 p9 p10 p11 p12
              go_wp2_with fail
              exact HKR.out _ _ _ (by kernel_rfl) rfl (HBE.out 0)
          · cases ne
            · have hx := hd2 (.inl rfl)
              rw [hx.1] at y11
              rw [hx.2] at y12
              clear hx
              rw [HSO2.out] at y9
              clear hd2 HSO2
              unfold fr6
              go_upto_region 10 with fail
              clear hW p0 p1 p2 p3 p4 p5 p6 p7 p8 p9 p10 p11 p12
              go_wp2_with fail
              exact HKR.out _ _ _ (by kernel_rfl) rfl (HBE.out 0)
            · have hx := hd2 (.inl rfl)
              rw [hx.1] at y11
              rw [hx.2] at y12
              clear hx
              rw [HSO2.out] at y9
              clear hd2 HSO2
              unfold fr6
              go_upto_region 10 with fail
              clear hW p0 p1 p2 p3 p4 p5 p6 p7 p8 p9 p10 p11 p12
              go_wp2_with fail
              exact HKR.out _ _ _ (by kernel_rfl) rfl (HBE.out 0)
      · have hji : ¬ ((j : Nat) : Int) < (vn : Nat) := by omega
        have hr2 : RR own wr L (plyN s true true n) := HR1.out.below HB.out
        have g2 : wr.cell? ⟨w.heap.size + 5, 2, none⟩ = some (.pointer (some ⟨L.ubP, 0, none⟩)) := by rw [← HL1.out]; exact hr2.rg.1.cell 2
        have HLG := hid_of (log_any L.ubP L.mbP L.lvP L.gvP _ wr hr2.uP.u)
        have hbe : Below w.heap.size w wr := HB1.out.trans (HB.out.mono HB1.out.size)
        have HPL2 := hid_of (play_any a n c s HNN.out false false wr (HS.out.below hbe))
        have HR2 := hid_of hr2
        have HBE := hid_of hbe
        clear hr2 hbe HRS HD
        unfold fr6
        go_wp2_with fail
        refine HLG.out.mono ?_
        rintro e w2 ⟨rfl, hw2⟩
        obtain rfl := hw2.symm
        clear HLG hw2 g2
        go_wp2_with fail
        refine HPL2.out.mono ?_
        rintro e w3 ⟨rfl, own3, L3, hr3, hb3, ho3, hl3⟩
        have g3 : w3.cell? ⟨wr.heap.size + 5, 2, none⟩ = some (.pointer (some ⟨L3.ubP, 0, none⟩)) := by rw [← hl3]; exact hr3.rg.1.cell 2
        have HLG3 := hid_of (log_any L3.ubP L3.mbP L3.lvP L3.gvP _ w3 hr3.uP.u)
        have HP : Hid (Calls Try.prog 16 #[L.gvP, L3.gvP] w3 fun e w' => e = .returned (.bool true) ∧ Below w3.heap.size w3 w') := by
          obtain ⟨x, hx⟩ := HREL.out.opens
          have h9 := hr3.uP.u.log
          rw [hx] at h9
          exact isPre_yes L.gvP L3.gvP _ x w3 (HR2.out.below hb3).uP.u.log h9 (by rw [← hx]; have := HLEN.out.2.2; omega)
        have HB3 : Hid (Below w.heap.size w w3) := HBE.out.trans (hb3.mono HBE.out.size)
        clear hr3 hb3 ho3 hl3 HPL2
        go_wp2_with fail
        refine HLG3.out.mono ?_
        rintro e w4 ⟨rfl, hw4⟩
        obtain rfl := hw4.symm
        clear HLG3 hw4 g3
        go_wp2_with fail
        refine HP.out.mono ?_
        rintro e w5 ⟨rfl, hb5⟩
        have HB5 : Hid (Below w.heap.size w w5) := HB3.out.trans (hb5.mono HB3.out.size)
        clear HP hb5
        go_wp2_with fail
        go_ret
        exact ⟨rfl, HB5.out⟩
  · have HSM := hid_of (small_no a n c hn w)
    clear hs hn
    go_enter Try.func6, Try.ntmps6
    go_wp2_with fail
    refine HSM.out.mono ?_
    rintro e w0 ⟨rfl, hw0⟩
    obtain rfl := hw0.symm
    go_wp2_with fail
    go_ret
    exact ⟨rfl, Below.refl _ _⟩
end Go.Proofs.Qxb6500749a
