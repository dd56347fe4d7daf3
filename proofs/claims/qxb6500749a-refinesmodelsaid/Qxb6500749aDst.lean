import Derived.Test.Qxb6500749aNex
import Derived.LoopN
namespace Go.Proofs.Qxb6500749a
open Go.RowKit
attribute [local go_sem] put_size put_cell_same put_cell_ne put_frozen_same put_frozen_ne put_setCell_same put_setCell_ne put_drew
attribute [local go_sem] drewN_setCell drewN_alloc drewN_put
/-! ### One cycle of the DMA master -/
def takD (D : DD) (i : INP) : DD := if i.e = true then { D with wai := false, st := 4 } else absD { D with wai := false } i.d
def takB (D : DD) (B : BD) (i : INP) : BD := if i.e = true then B else absB D B i.d
def takes (D : DD) (i : INP) : Bool := (D.st == 1) && D.wai && i.v
def dues (D : DD) : Bool := (D.st == 1) && !D.wai
structure DO where
  D : DD
  B : BD
  U : BusD
def gosF (D : DD) (B : BD) (U : BusD) : DO :=
  if dues D = true then
    if (nexF D B).2.ok = true then ⟨{ (nexF D B).1 with wai := !U.busy }, B, issF U (nexF D B).2.w (nexF D B).2.a (nexF D B).2.d⟩ else ⟨(nexF D B).1, B, U⟩
  else ⟨D, B, U⟩
def dmaF (D : DD) (B : BD) (U : BusD) : DO :=
  let t := tickF U
  let D1 := if takes D t.2 = true then takD D t.2 else D
  let B1 := if takes D t.2 = true then takB D B t.2 else B
  let o := gosF D1 B1 t.1
  ⟨o.D, nextB o.B, o.U⟩
theorem absD_ok (D : DD) (hD : D.Ok) (x : Int) (hx : W32 x) : (absD { D with wai := false } x).Ok := by
  have h1 := hD.fet0
  have h2 := hD.fet
  unfold absD
  simp only []
  split
  · rename_i h0
    have h3 := h1 h0
    refine ⟨hD.st, ?_, h3, fun q => ?_, hD.desc, hD.buf⟩
    · simp only []
      split
      · exact .inr (.inl rfl)
      · exact .inl rfl
    · simp only [] at q ⊢
      split at q
      · cases q
      · omega
  · split
    · exact ⟨hD.st, .inr (.inr rfl), h2, fun q => absurd (show (2 : Int) = 0 from q) (by decide), hD.desc, hx⟩
    · exact ⟨hD.st, .inr (.inl rfl), h2, fun q => absurd (show (1 : Int) = 0 from q) (by decide), hD.desc, hD.buf⟩
theorem takB_ok (D : DD) (B : BD) (hB : B.Ok) (i : INP) (hi : W32 i.d) : (takB D B i).Ok := by
  unfold takB absB
  repeat' split
  all_goals first | exact hB | exact hB.set _ _ hi | exact (hB.set _ _ (W32.emod _)).set _ _ (W32.emod _)
theorem nexF_ok (D : DD) (B : BD) (hD : D.Ok) : W32 (nexF D B).2.a ∧ W32 (nexF D B).2.d := by
  unfold nexF noRQ
  repeat' split
  all_goals first | exact ⟨W32.emod _, w32_zero⟩ | exact ⟨w32_zero, w32_zero⟩ | exact ⟨W32.emod _, hD.buf⟩
def fr51 (db tb : Nat) (u : Nat → Value) : Act :=
  { tmps := ((.pointer (some ⟨db, 0, none⟩)) :: (u 1) :: (u 2) :: (.pointer (some ⟨tb, 0, none⟩)) :: (u 4) :: (u 5) :: (u 6) :: (u 7) :: (u 8) :: (u 9) :: (u 10) :: (u 11) :: (u 12) :: (u 13) :: (u 14) :: (u 15) :: (u 16) :: (u 17) :: (u 18) :: (u 19) :: (u 20) :: (u 21) :: (u 22) :: (u 23) :: (u 24) :: (u 25) :: (u 26) :: (u 27) :: (u 28) :: (u 29) :: (u 30) :: (u 31) :: (u 32) :: (u 33) :: (u 34) :: (u 35) :: (u 36) :: (u 37) :: (u 38) :: (u 39) :: (u 40) :: (u 41) :: (u 42) :: (u 43) :: (u 44) :: (u 45) :: (u 46) :: (u 47) :: (u 48) :: (u 49) :: (u 50) :: (u 51) :: (u 52) :: (u 53) :: (u 54) :: (u 55) :: (u 56) :: (u 57) :: (u 58) :: (u 59) :: (u 60) :: (u 61) :: (u 62) :: (u 63) :: (u 64) :: (u 65) :: (u 66) :: (u 67) :: (u 68) :: (u 69) :: (u 70) :: (u 71) :: (u 72) :: (u 73) :: (u 74) :: (u 75) :: (u 76) :: [] : List Value).toArray, defers := [] }
def fr51t (db tb : Nat) (g : Bool) (u : Nat → Value) : Act :=
  { tmps := ((.pointer (some ⟨db, 0, none⟩)) :: (u 1) :: (u 2) :: (.pointer (some ⟨tb, 0, none⟩)) :: (u 4) :: (u 5) :: (u 6) :: (u 7) :: (u 8) :: (u 9) :: (u 10) :: (u 11) :: (u 12) :: (u 13) :: (u 14) :: (u 15) :: (u 16) :: (u 17) :: (u 18) :: (u 19) :: (u 20) :: (u 21) :: (u 22) :: (u 23) :: (u 24) :: (u 25) :: (u 26) :: (u 27) :: (.bool g) :: (u 29) :: (u 30) :: (u 31) :: (u 32) :: (u 33) :: (u 34) :: (u 35) :: (u 36) :: (u 37) :: (u 38) :: (u 39) :: (u 40) :: (u 41) :: (u 42) :: (u 43) :: (u 44) :: (u 45) :: (u 46) :: (u 47) :: (u 48) :: (u 49) :: (u 50) :: (u 51) :: (u 52) :: (u 53) :: (u 54) :: (u 55) :: (u 56) :: (u 57) :: (u 58) :: (u 59) :: (u 60) :: (u 61) :: (u 62) :: (u 63) :: (u 64) :: (u 65) :: (u 66) :: (u 67) :: (u 68) :: (u 69) :: (u 70) :: (u 71) :: (u 72) :: (u 73) :: (u 74) :: (u 75) :: (u 76) :: [] : List Value).toArray, defers := [] }
def fr51d (db tb : Nat) (g : Bool) (u : Nat → Value) : Act :=
  { tmps := ((.pointer (some ⟨db, 0, none⟩)) :: (u 1) :: (u 2) :: (.pointer (some ⟨tb, 0, none⟩)) :: (u 4) :: (u 5) :: (u 6) :: (u 7) :: (u 8) :: (u 9) :: (u 10) :: (u 11) :: (u 12) :: (u 13) :: (u 14) :: (u 15) :: (u 16) :: (u 17) :: (u 18) :: (u 19) :: (u 20) :: (u 21) :: (u 22) :: (u 23) :: (u 24) :: (u 25) :: (u 26) :: (u 27) :: (u 28) :: (u 29) :: (u 30) :: (u 31) :: (u 32) :: (u 33) :: (u 34) :: (u 35) :: (u 36) :: (u 37) :: (u 38) :: (u 39) :: (u 40) :: (u 41) :: (u 42) :: (u 43) :: (u 44) :: (u 45) :: (u 46) :: (u 47) :: (u 48) :: (u 49) :: (u 50) :: (u 51) :: (.bool g) :: (u 53) :: (u 54) :: (u 55) :: (u 56) :: (u 57) :: (u 58) :: (u 59) :: (u 60) :: (u 61) :: (u 62) :: (u 63) :: (u 64) :: (u 65) :: (u 66) :: (u 67) :: (u 68) :: (u 69) :: (u 70) :: (u 71) :: (u 72) :: (u 73) :: (u 74) :: (u 75) :: (u 76) :: [] : List Value).toArray, defers := [] }
set_option maxRecDepth 100000 in
set_option maxHeartbeats 16000000 in
theorem dstep_any (db bb cb ub mb : Nat) (fv lv gv : Value) (D : DD) (hD : D.Ok) (B : BD) (hB : B.Ok) (U : BusD) (N : Nat) (hU : BOk N U) (hN : N < 1000000000000) (hnow : B.now < 4294967295) (w : World)
    (hp : Blk w db (dmaV bb ub D) 97) (hb : BR w bb cb fv B) (hu : UB w ub mb lv gv U) (cl : ∀ k, lv.ownBlock = some k → k ≠ cb) :
    Calls Try.prog 51 #[.pointer (some ⟨db, 0, none⟩)] w fun e w' => e = .returned (.int .u8 (dmaF D B U).D.st) ∧ ∃ lv' gv', Blk w' db (dmaV bb ub (dmaF D B U).D) 97 ∧ BR w' bb cb fv (dmaF D B U).B ∧ UB w' ub mb lv' gv' (dmaF D B U).U ∧ Fr (KP db bb cb ub mb gv) w w' ∧ (∀ k, lv'.ownBlock = some k → lv.ownBlock = some k) ∧ (∀ k, gv'.ownBlock = some k → gv.ownBlock = some k ∨ w.heap.size ≤ k) := by
  have htk := tick_any ub mb lv gv U (hU.ok hN)
  have hD1 : ∀ i : INP, W32 i.d → takes D i = true → i.e = false → (absD { D with wai := false } i.d).Ok := fun i hi _ _ => absD_ok D hD i.d hi
  have hB1 : ∀ i : INP, W32 i.d → takes D i = true → (takB D B i).Ok := fun i hi _ => takB_ok D B hB i hi
  have hU1 := hU.tick
  have hd1 := tickF_ok U hU.lr
  have HPF : Hid (dmaF D B U = ⟨(gosF (if takes D (tickF U).2 = true then takD D (tickF U).2 else D) (if takes D (tickF U).2 = true then takB D B (tickF U).2 else B) (tickF U).1).D, nextB (gosF (if takes D (tickF U).2 = true then takD D (tickF U).2 else D) (if takes D (tickF U).2 = true then takB D B (tickF U).2 else B) (tickF U).1).B, (gosF (if takes D (tickF U).2 = true then takD D (tickF U).2 else D) (if takes D (tickF U).2 = true then takB D B (tickF U).2 else B) (tickF U).1).U⟩) := rfl
  rw [HPF.out]
  clear HPF
  generalize tickF U = T at *
  obtain ⟨U1, iv, ie, id⟩ := T
  simp only [] at htk hU1 hd1 ⊢
  have HD1 := hid_of (hD1 ⟨iv, ie, id⟩ hd1)
  have HB1 := hid_of (hB1 ⟨iv, ie, id⟩ hd1)
  obtain ⟨tk, htk2⟩ : ∃ tk, takes D ⟨iv, ie, id⟩ = tk := ⟨_, rfl⟩
  rw [htk2] at HD1 HB1 ⊢
  obtain ⟨D1, hDD⟩ : ∃ D1, (if tk = true then takD D ⟨iv, ie, id⟩ else D) = D1 := ⟨_, rfl⟩
  obtain ⟨B1, hBB⟩ : ∃ B1, (if tk = true then takB D B ⟨iv, ie, id⟩ else B) = B1 := ⟨_, rfl⟩
  rw [hDD, hBB]
  obtain ⟨du, hdu⟩ : ∃ du, dues D1 = du := ⟨_, rfl⟩
  have HDU : Hid (du = ((D1.st == 1) && !D1.wai)) := hdu.symm
  have HTK2 : Hid (tk = ((D.st == 1) && D.wai && iv)) := htk2.symm
  have hgos : gosF D1 B1 U1 = if du = true then (if (nexF D1 B1).2.ok = true then ⟨{ (nexF D1 B1).1 with wai := !U1.busy }, B1, issF U1 (nexF D1 B1).2.w (nexF D1 B1).2.a (nexF D1 B1).2.d⟩ else ⟨(nexF D1 B1).1, B1, U1⟩) else ⟨D1, B1, U1⟩ := by rw [← hdu]; rfl
  obtain ⟨O, hO⟩ : ∃ O, gosF D1 B1 U1 = O := ⟨_, rfl⟩
  rw [hO] at hgos ⊢
  obtain ⟨D3, B3, U3⟩ := O
  have HGOS := hid_of hgos
  have hB1ok : B1.Ok := by
    rw [← hBB]
    cases tk
    · exact hB
    · exact HB1.out rfl
  have hkeep : B1.fs = B.fs ∧ B1.now = B.now := by
    rw [← hBB]
    cases tk
    · exact ⟨rfl, rfl⟩
    · unfold takB absB
      simp only [if_true]
      repeat' split
      all_goals exact ⟨rfl, rfl⟩
  have hD1ok : du = true → D1.Ok := fun q => by
    rw [← hDD]
    cases tk
    · exact hD
    · cases ie
      · exact HD1.out rfl rfl
      · exfalso
        rw [← hdu, ← hDD] at q
        have : dues (if true = true then takD D ⟨iv, true, id⟩ else D) = false := rfl
        rw [this] at q
        cases q
  have HP0 := hid_of (dr_start hp hb hu cl)
  have HTK := hid_of (htk w hu)
  have HOK : Hid (BOk N U1 ∧ W32 id ∧ B1.Ok ∧ (du = true → D1.Ok) ∧ B1.now < 4294967295 ∧ N < 1000000000000) := ⟨hU1, hd1, hB1ok, hD1ok, by rw [hkeep.2]; exact hnow, hN⟩
  have HKP := hid_of hkeep
  have HDD := hid_of hDD
  have HBB := hid_of hBB
  have HDB : Hid (D.Ok ∧ B.Ok) := ⟨hD, hB⟩
  have c1 : w.cell? ⟨db, 1, none⟩ = some (.pointer (some ⟨ub, 0, none⟩)) := hp.cell 1
  clear hp hb hu cl htk hU1 hd1 htk2 hDD hBB hdu hgos hO hB1ok hkeep hD1ok hD1 hB1 hD hB hU hN hnow
  simp only []
  go_enter Try.func51, Try.ntmps51
  go_upto_region 1 with fail
  refine wp_region_list ?_
  go_wp2_with fail
  refine HTK.out.mono ?_
  rintro e w1 ⟨rfl, hu1, f1⟩
  have HP1 : Hid (DR w w1 db bb cb ub mb fv lv gv lv gv D B U1) := HP0.out.tick hu1 f1
  clear HP0 HTK hu1 f1 c1
  obtain ⟨W4, hW4⟩ : ∃ W4, w1.alloc (.cells #[.bool ie, .int .u32 id] 66) = W4 := ⟨_, rfl⟩
  have HP : Hid (DR w W4 db bb cb ub mb fv lv gv lv gv D B U1) := by rw [← hW4]; exact HP1.out.below ((Below.refl _ _).alloc (Nat.le_refl _) _)
  have HB66 : Hid (Blk W4 w1.heap.size #[.bool ie, .int .u32 id] 66) := by rw [← hW4]; exact Blk.new _ _ _
  clear HP1
  go_upto_region 2 with fail
  clear hW4
  refine cutM (Km := fun act wd => ∃ u, act = fr51t db w1.heap.size tk u ∧ wd = W4) ?rest ?first
  case first =>
    obtain ⟨KR, hKR⟩ : ∃ KR : Act → World → Prop, KR = fun act wd => ∃ u, act = fr51t db w1.heap.size tk u ∧ wd = W4 := ⟨_, rfl⟩
    have HKR : Hid (∀ (act : Act), act = fr51t db w1.heap.size tk (fun i => act.tmps.getD i undef) → KR act W4) := fun act e => by rw [hKR]; exact ⟨_, e, rfl⟩
    rw [← hKR]
    clear hKR
    have d2 : W4.cell? ⟨db, 2, none⟩ = some (.int .u8 D.st) := HP.out.hp.cell 2
    have d7 : W4.cell? ⟨db, 7, none⟩ = some (.bool D.wai) := HP.out.hp.cell 7
    have hq := HTK2.out
    cases hs : (D.st == 1)
    · rw [hs] at hq
      have h2 : tk = false := hq
      clear hq
      subst h2
      clear HP HB66
      go_wp2_with fail
      exact HKR.out _ (by kernel_rfl)
    · cases hw : D.wai
      · rw [hs, hw] at hq
        have h2 : tk = false := hq
        clear hq
        subst h2
        rw [hw] at d7
        clear HP HB66
        go_wp2_with fail
        exact HKR.out _ (by kernel_rfl)
      · rw [hs, hw] at hq
        have h2 : tk = iv := hq
        clear hq
        subst h2
        rw [hw] at d7
        clear HP HB66
        go_wp2_with fail
        exact HKR.out _ (by kernel_rfl)
  case rest =>
  rintro act wd ⟨u, rfl, hwd⟩
  obtain rfl := hwd.symm
  clear hwd
  unfold fr51t
  go_upto_if 28 with fail
  refine cutM (Km := fun act wc => ∃ u, act = fr51 db w1.heap.size u ∧ Hid (DR w wc db bb cb ub mb fv lv gv lv gv D1 B1 U1)) ?rest ?first
  case first =>
    obtain ⟨KR, hKR⟩ : ∃ KR : Act → World → Prop, KR = fun act wc => ∃ u, act = fr51 db w1.heap.size u ∧ Hid (DR w wc db bb cb ub mb fv lv gv lv gv D1 B1 U1) := ⟨_, rfl⟩
    have HKR : Hid (∀ (act : Act) (wc : World), act = fr51 db w1.heap.size (fun i => act.tmps.getD i undef) → DR w wc db bb cb ub mb fv lv gv lv gv D1 B1 U1 → KR act wc) := fun act wc e h => by rw [hKR]; exact ⟨_, e, h⟩
    rw [← hKR]
    clear hKR
    cases tk
    · have HX : Hid (DR w W4 db bb cb ub mb fv lv gv lv gv D1 B1 U1) := by
        have e1 := HDD.out
        have e2 := HBB.out
        rw [if_neg (by decide)] at e1 e2
        rw [← e1, ← e2]
        exact HP.out
      clear HP
      go_wp2_with fail
      exact HKR.out _ _ (by kernel_rfl) HX.out
    · have hne : w1.heap.size ≠ db := HB66.out.neT HP.out.hp (by decide)
      obtain ⟨u2, hu2, hl2⟩ := HP.out.hp.out
      have HP2 : Hid (DR w (put u2 db (dmaV bb ub { D with wai := false }) 97) db bb cb ub mb fv lv gv lv gv { D with wai := false } B U1) := by
        have := HP.out.row { D with wai := false }
        rw [hu2, put_put] at this
        exact this
      have HZ : Hid (Blk (put u2 db (dmaV bb ub { D with wai := false }) 97) w1.heap.size #[.bool ie, .int .u32 id] 66) := by
        have := HB66.out.put_ne (b := db) (cs := dmaV bb ub { D with wai := false }) (T := 97) hne
        rw [hu2, put_put] at this
        exact this
      clear HP HB66
      have hu2' : W4 = put u2 db #[.pointer (some ⟨bb, 0, none⟩), .pointer (some ⟨ub, 0, none⟩), .int .u8 D.st, .int .u8 D.ph, .int .u32 D.desc, .int .i64 ((D.fet : Nat) : Int), .int .u32 D.buf, .bool D.wai] 97 := hu2
      clear hu2
      subst hu2'
      go_upto_region 4 with fail
      obtain ⟨w5, hw5⟩ : ∃ w5, put u2 db #[.pointer (some ⟨bb, 0, none⟩), .pointer (some ⟨ub, 0, none⟩), .int .u8 D.st, .int .u8 D.ph, .int .u32 D.desc, .int .i64 ((D.fet : Nat) : Int), .int .u32 D.buf, .bool false] 97 = w5 := ⟨_, rfl⟩
      have HP5 : Hid (DR w w5 db bb cb ub mb fv lv gv lv gv { D with wai := false } B U1) := by rw [← hw5]; exact HP2.out
      have z0 : w5.cell? ⟨w1.heap.size, 0, none⟩ = some (.bool ie) := by rw [← hw5]; exact HZ.out.cell 0
      have z1 : w5.cell? ⟨w1.heap.size, 1, none⟩ = some (.int .u32 id) := by rw [← hw5]; exact HZ.out.cell 1
      rw [hw5]
      clear hw5 HP2 HZ hl2
      cases ie
      · have HAB : Hid (Calls Try.prog 71 #[.pointer (some ⟨db, 0, none⟩), .int .u32 id] w5 fun e w' => e = .returned (.tuple #[]) ∧ Blk w' db (dmaV bb ub D1) 97 ∧ BR w' bb cb fv B1 ∧ Fr (fun k => k = db ∨ k = cb) w5 w') := by
          have e1 := HDD.out
          have e2 := HBB.out
          rw [if_pos rfl] at e1 e2
          have e1' : absD { D with wai := false } id = D1 := e1
          have e2' : absB { D with wai := false } B id = B1 := e2
          rw [← e1', ← e2']
          have hok : ({ D with wai := false } : DD).Ok := ⟨HDB.out.1.st, HDB.out.1.ph, HDB.out.1.fet, HDB.out.1.fet0, HDB.out.1.desc, HDB.out.1.buf⟩
          exact absorb_any db bb cb ub fv _ hok B HDB.out.2 id w5 HP5.out.hp HP5.out.br
        go_wp2_with fail
        refine HAB.out.mono ?_
        rintro e w6 ⟨rfl, q1, q2, q3⟩
        have HP6 : Hid (DR w w6 db bb cb ub mb fv lv gv lv gv D1 B1 U1) := HP5.out.sub q3 q1 q2
        clear HAB q1 q2 q3 HP5 z0 z1
        go_wp2_with fail
        exact HKR.out _ _ (by kernel_rfl) HP6.out
      · obtain ⟨u6, hu6, hl6⟩ := HP5.out.hp.out
        have HP6 : Hid (DR w (put u6 db (dmaV bb ub { D with wai := false, st := 4 }) 97) db bb cb ub mb fv lv gv lv gv D1 B1 U1) := by
          have e1 := HDD.out
          have e2 := HBB.out
          rw [if_pos rfl] at e1 e2
          have e1' : ({ D with wai := false, st := 4 } : DD) = D1 := e1
          have e2' : B = B1 := e2
          rw [← e1', ← e2']
          have := HP5.out.row { D with wai := false, st := 4 }
          rw [hu6, put_put] at this
          exact this
        rw [hu6] at z0 z1
        clear HP5
        have hu6' : w5 = put u6 db #[.pointer (some ⟨bb, 0, none⟩), .pointer (some ⟨ub, 0, none⟩), .int .u8 D.st, .int .u8 D.ph, .int .u32 D.desc, .int .i64 ((D.fet : Nat) : Int), .int .u32 D.buf, .bool false] 97 := hu6
        unfold dmaV at z0 z1
        clear hu6
        subst hu6'
        go_wp2_with fail
        exact HKR.out _ _ (by kernel_rfl) HP6.out
  case rest =>
  clear HP HB66 HD1 HB1 HDD HBB HTK2
  rintro act wc ⟨u, rfl, HP⟩
  unfold fr51
  go_upto_region 7 with fail
  refine cutM (Km := fun act wd => ∃ u, act = fr51d db w1.heap.size du u ∧ wd = wc) ?rest ?first
  case first =>
    obtain ⟨KR, hKR⟩ : ∃ KR : Act → World → Prop, KR = fun act wd => ∃ u, act = fr51d db w1.heap.size du u ∧ wd = wc := ⟨_, rfl⟩
    have HKR : Hid (∀ (act : Act), act = fr51d db w1.heap.size du (fun i => act.tmps.getD i undef) → KR act wc) := fun act e => by rw [hKR]; exact ⟨_, e, rfl⟩
    rw [← hKR]
    clear hKR
    have d2 : wc.cell? ⟨db, 2, none⟩ = some (.int .u8 D1.st) := HP.out.hp.cell 2
    have d7 : wc.cell? ⟨db, 7, none⟩ = some (.bool D1.wai) := HP.out.hp.cell 7
    have hq := HDU.out
    cases hs : (D1.st == 1)
    · rw [hs] at hq
      have h2 : du = false := hq
      clear hq
      subst h2
      clear HP
      go_wp2_with fail
      exact HKR.out _ (by kernel_rfl)
    · cases hw : D1.wai
      · rw [hs, hw] at hq
        have h2 : du = true := hq
        clear hq
        subst h2
        rw [hw] at d7
        clear HP
        go_wp2_with fail
        exact HKR.out _ (by kernel_rfl)
      · rw [hs, hw] at hq
        have h2 : du = false := hq
        clear hq
        subst h2
        rw [hw] at d7
        clear HP
        go_wp2_with fail
        exact HKR.out _ (by kernel_rfl)
  case rest =>
  rintro act wd ⟨u, rfl, hwd⟩
  obtain rfl := hwd.symm
  clear hwd
  unfold fr51d
  go_upto_if 52 with fail
  refine cutM (Km := fun act wd => ∃ u lv' gv', act = fr51 db w1.heap.size u ∧ Hid (DR w wd db bb cb ub mb fv lv gv lv' gv' D3 B3 U3)) ?rest ?first
  case first =>
    obtain ⟨KR, hKR⟩ : ∃ KR : Act → World → Prop, KR = fun act wd => ∃ u lv' gv', act = fr51 db w1.heap.size u ∧ Hid (DR w wd db bb cb ub mb fv lv gv lv' gv' D3 B3 U3) := ⟨_, rfl⟩
    have HKR : Hid (∀ (act : Act) (wd : World) (lv' gv' : Value), act = fr51 db w1.heap.size (fun i => act.tmps.getD i undef) → DR w wd db bb cb ub mb fv lv gv lv' gv' D3 B3 U3 → KR act wd) := fun act wd lv' gv' e h => by rw [hKR]; exact ⟨_, lv', gv', e, h⟩
    rw [← hKR]
    clear hKR
    cases du
    · have HX : Hid (DR w wc db bb cb ub mb fv lv gv lv gv D3 B3 U3) := by
        have e1 := HGOS.out
        rw [if_neg (by decide)] at e1
        injection e1 with q1 q2 q3
        rw [q1, q2, q3]
        exact HP.out
      clear HP
      go_wp2_with fail
      exact HKR.out _ _ _ _ (by kernel_rfl) HX.out
    · have hg := HGOS.out
      rw [if_pos rfl] at hg
      have HNX := hid_of (next_any db bb cb ub fv D1 (HOK.out.2.2.2.1 rfl) B1 HOK.out.2.2.1 wc HP.out.hp HP.out.br)
      have HAD : Hid (W32 (nexF D1 B1).2.a ∧ W32 (nexF D1 B1).2.d) := nexF_ok D1 B1 (HOK.out.2.2.2.1 rfl)
      generalize nexF D1 B1 = X at *
      obtain ⟨D2, ok, rw', ra, rd⟩ := X
      simp only [] at hg HNX HAD
      have HG := hid_of hg
      clear hg
      go_upto_region 8 with fail
      refine wp_region_list ?_
      go_wp2_with fail
      refine HNX.out.mono ?_
      rintro e w5 ⟨rfl, q1, q2, q3⟩
      have HP5 : Hid (DR w w5 db bb cb ub mb fv lv gv lv gv D2 B1 U1) := HP.out.sub q3 q1 q2
      clear HNX HP q1 q2 q3
      obtain ⟨W6, hW6⟩ : ∃ W6, w5.alloc (.cells #[.bool rw', .int .u32 ra, .int .u32 rd] 64) = W6 := ⟨_, rfl⟩
      have HP6 : Hid (DR w W6 db bb cb ub mb fv lv gv lv gv D2 B1 U1) := by rw [← hW6]; exact HP5.out.below ((Below.refl _ _).alloc (Nat.le_refl _) _)
      have HQ6 : Hid (Blk W6 w5.heap.size #[.bool rw', .int .u32 ra, .int .u32 rd] 64) := by rw [← hW6]; exact Blk.new _ _ _
      clear HP5
      cases ok
      · have HX : Hid (DR w W6 db bb cb ub mb fv lv gv lv gv D3 B3 U3) := by
          have e1 := HG.out
          rw [if_neg (by decide)] at e1
          injection e1 with q1 q2 q3
          rw [q1, q2, q3]
          exact HP6.out
        clear HP6
        go_upto_region 9 with fail
        clear hW6
        go_wp2_with fail
        exact HKR.out _ _ _ _ (by kernel_rfl) HX.out
      · have hg := HG.out
        rw [if_pos rfl] at hg
        injection hg with g1 g2 g3
        have HIS : Hid (Calls Try.prog 66 #[.pointer (some ⟨ub, 0, none⟩), .agg #[.bool rw', .int .u32 ra, .int .u32 rd]] W6.drew fun e w' => e = .returned (.bool (!U1.busy)) ∧ BusPost W6.drew ub mb lv gv U3 w') := by
          rw [g3]
          exact issue_any ub mb lv gv U1 (HOK.out.1.ok HOK.out.2.2.2.2.2) rw' ra rd HAD.out.1 W6.drew HP6.out.drew.u
        have HG1 : Hid (D3 = { D2 with wai := !U1.busy } ∧ B3 = B1) := ⟨g1, g2⟩
        clear g1 g2 g3
        obtain ⟨nb, hnb⟩ : ∃ nb, (!U1.busy) = nb := ⟨_, rfl⟩
        rw [hnb] at HIS HG1
        clear hnb
        go_upto_region 10 with fail
        clear hW6
        refine wp_region_float [0, 1, 2, 3, 4, 5] [6, 7, 8, 9] [0, 1, 2, 3] mixed (fun ω => ω.cell? ⟨db, 1, none⟩ = some (.pointer (some ⟨ub, 0, none⟩)) ∧ Blk ω w5.heap.size #[.bool rw', .int .u32 ra, .int .u32 rd] 64) (by kernel_rfl) rfl (by kernel_rfl) ⟨HP6.out.drew.hp.cell 1, HQ6.out⟩ ?_
        iterate 6 refine wpFl_op _ _ _ _ rfl rfl (fun ω hj => by
          first
          | (go_simp; rfl)
          | (have j1 := (hj rfl).1
             have q0 : ω.cell? ⟨w5.heap.size, 0, none⟩ = some (.bool rw') := (hj rfl).2.cell 0
             have q1 : ω.cell? ⟨w5.heap.size, 1, none⟩ = some (.int .u32 ra) := (hj rfl).2.cell 1
             have q2 : ω.cell? ⟨w5.heap.size, 2, none⟩ = some (.int .u32 rd) := (hj rfl).2.cell 2
             go_simp; rfl)) ?_
        refine wpFl_nil _ _ ?_
        simp only [Act.put, List.setIfInBounds_toArray]
        refine wpCh_rest _ _ _ _ [_, _, _, _] _ _ rfl (by kernel_rfl) ?_
        simp only [List.getElem_toArray, List.getElem_cons_succ, List.getElem_cons_zero]
        go_wp2_with fail
        refine HIS.out.mono ?_
        rintro e w7 ⟨rfl, lv2, gv2, hu2, f2, ho2, hg2⟩
        have HP7 : Hid (DR w w7 db bb cb ub mb fv lv gv lv2 gv2 D2 B1 U3) := HP6.out.drew.iss hu2 f2 ho2 hg2
        clear HIS HP6 hu2 f2 ho2 hg2 HQ6
        obtain ⟨u8, hu8, hl8⟩ := HP7.out.hp.out
        have HP8 : Hid (DR w (put u8 db (dmaV bb ub { D2 with wai := nb }) 97) db bb cb ub mb fv lv gv lv2 gv2 D3 B3 U3) := by
          rw [HG1.out.1, HG1.out.2]
          have := HP7.out.row { D2 with wai := nb }
          rw [hu8, put_put] at this
          exact this
        clear HP7
        have hu8' : w7 = put u8 db #[.pointer (some ⟨bb, 0, none⟩), .pointer (some ⟨ub, 0, none⟩), .int .u8 D2.st, .int .u8 D2.ph, .int .u32 D2.desc, .int .i64 ((D2.fet : Nat) : Int), .int .u32 D2.buf, .bool D2.wai] 97 := hu8
        clear hu8
        subst hu8'
        go_wp2_with fail
        exact HKR.out _ _ _ _ (by kernel_rfl) HP8.out
  case rest =>
  have HB3 : Hid (B3 = B1) := by
    have := HGOS.out
    unfold Hid
    split at this
    · split at this
      · injection this
      · injection this
    · injection this
  clear HP wc
  rintro act wc ⟨u, lv', gv', rfl, HP⟩
  unfold fr51
  have c0 : wc.cell? ⟨db, 0, none⟩ = some (.pointer (some ⟨bb, 0, none⟩)) := HP.out.hp.cell 0
  have hnw : B3.now < 4294967295 := by rw [HB3.out]; exact HOK.out.2.2.2.2.1
  have HCL := hid_of (clock_any bb cb fv B3 hnw wc HP.out.br)
  have HP5 : Hid (DR w (put wc bb (bV cb fv (B3.now + 1)) 125) db bb cb ub mb fv lv gv lv' gv' D3 (nextB B3) U3) := HP.out.clock hnw
  clear HP hnw
  go_upto_region 11 with fail
  refine wp_region_list ?_
  go_wp2_with fail
  refine HCL.out.mono ?_
  rintro e w5 ⟨rfl, hw5⟩
  rw [← hw5] at HP5
  clear HCL hw5 c0
  have c2 : w5.cell? ⟨db, 2, none⟩ = some (.int .u8 D3.st) := HP5.out.hp.cell 2
  go_wp2_with fail
  go_ret
  exact ⟨rfl, lv', gv', HP5.out.hp, HP5.out.br, HP5.out.u, HP5.out.fr, HP5.out.lo, HP5.out.go⟩
end Go.Proofs.Qxb6500749a
