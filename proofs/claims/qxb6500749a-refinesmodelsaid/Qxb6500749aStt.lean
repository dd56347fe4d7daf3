import Derived.Test.Qxb6500749aSy4
import Derived.Test.Qxb6500749aMst
import Derived.Test.Qxb6500749aDsn
namespace Go.Proofs.Qxb6500749a
open Go.RowKit
attribute [local go_sem] put_size put_cell_same put_cell_ne put_frozen_same put_frozen_ne put_setCell_same put_setCell_ne put_drew
attribute [local go_sem] drewN_setCell drewN_alloc drewN_put
/-! ### What the pair shows -/
set_option maxRecDepth 100000 in
theorem agreed_any (pb bb ub : Nat) (pv : Value) (r : REP) (w : World) (h : Blk w pb (pairV bb ub pv r) 93) :
    Calls Try.prog 41 #[.pointer (some ⟨pb, 0, none⟩)] w fun e w' => e = .returned (.int .u32 (andB r.del.c r.sha.c)) ∧ ∃ q, w' = w.drewN q := by
  have c17 : w.cell? ⟨pb, 17, none⟩ = some (.int .u32 r.del.c) := h.cell 17
  have c20 : w.cell? ⟨pb, 20, none⟩ = some (.int .u32 r.sha.c) := h.cell 20
  unfold andB
  clear h
  go_enter Try.func41, Try.ntmps41
  go_upto_region 1 with fail
  go_quiet (fail)
  go_wp2_with fail
  go_ret
  exact ⟨rfl, _, rfl⟩
set_option maxRecDepth 100000 in
theorem halted_any (pb bb ub : Nat) (pv : Value) (r : REP) (w : World) (h : Blk w pb (pairV bb ub pv r) 93) :
    Calls Try.prog 20 #[.pointer (some ⟨pb, 0, none⟩)] w fun e w' => e = .returned (.bool (andB (andB r.del.c r.sha.c) 4 != 0)) ∧ ∃ q, w' = w.drewN q := by
  have HA := hid_of (agreed_any pb bb ub pv r w h)
  obtain ⟨x, hx⟩ : ∃ x, andB r.del.c r.sha.c = x := ⟨_, rfl⟩
  rw [hx] at HA ⊢
  unfold andB
  clear h hx
  go_enter Try.func20, Try.ntmps20
  go_wp2_with fail
  refine HA.out.mono ?_
  rintro e w1 ⟨rfl, q, rfl⟩
  clear HA
  go_wp2_with fail
  go_ret
  exact ⟨rfl, _, rfl⟩
set_option maxRecDepth 100000 in
theorem trapped_any (pb bb ub : Nat) (pv : Value) (r : REP) (w : World) (h : Blk w pb (pairV bb ub pv r) 93) :
    Calls Try.prog 21 #[.pointer (some ⟨pb, 0, none⟩)] w fun e w' => e = .returned (.bool (andB (andB r.del.c r.sha.c) 8 != 0)) ∧ ∃ q, w' = w.drewN q := by
  have HA := hid_of (agreed_any pb bb ub pv r w h)
  obtain ⟨x, hx⟩ : ∃ x, andB r.del.c r.sha.c = x := ⟨_, rfl⟩
  rw [hx] at HA ⊢
  unfold andB
  clear h hx
  go_enter Try.func21, Try.ntmps21
  go_wp2_with fail
  refine HA.out.mono ?_
  rintro e w1 ⟨rfl, q, rfl⟩
  clear HA
  go_wp2_with fail
  go_ret
  exact ⟨rfl, _, rfl⟩
theorem drewN_below (w : World) (q : Nat) : Below w.heap.size w (w.drewN q) := ⟨rfl, rfl, rfl, Nat.le_refl _, fun _ _ => rfl⟩
set_option maxRecDepth 100000 in
set_option maxHeartbeats 4000000 in
theorem stopped_any (own : Nat → Nat) (L : LY) (R : RG) (w : World) (h : RR own w L R) :
    Calls Try.prog 19 #[.pointer (some ⟨L.rg, 0, none⟩)] w fun e w' => e = .returned (.bool (R.run && (halR R || traR R))) ∧ ∃ q, w' = w.drewN q := by
  have c20 : ∀ q : Nat, (w.drewN q).cell? ⟨L.rg, 20, none⟩ = some (ptr R.run L.pb) := fun q => h.rg.1.cell 20
  cases hr : R.run
  · rw [hr] at c20
    have c20' : w.cell? ⟨L.rg, 20, none⟩ = some (.pointer none) := c20 0
    clear c20 h hr
    go_enter Try.func19, Try.ntmps19
    go_wp2_with fail
    go_ret
    exact ⟨rfl, 0, rfl⟩
  · rw [hr] at c20
    have c20' : ∀ q : Nat, (w.drewN q).cell? ⟨L.rg, 20, none⟩ = some (.pointer (some ⟨L.pb, 0, none⟩)) := c20
    have c200 : w.cell? ⟨L.rg, 20, none⟩ = some (.pointer (some ⟨L.pb, 0, none⟩)) := c20 0
    have hb := (h.pair hr).1
    have HH : Hid (Calls Try.prog 20 #[.pointer (some ⟨L.pb, 0, none⟩)] w fun e w' => e = .returned (.bool (halR R)) ∧ ∃ q, w' = w.drewN q) := halted_any L.pb L.bbP L.ubP L.pv R.last w hb
    have HT : Hid (∀ q : Nat, Calls Try.prog 21 #[.pointer (some ⟨L.pb, 0, none⟩)] (w.drewN q) fun e w' => e = .returned (.bool (traR R)) ∧ ∃ q', w' = w.drewN q') := fun q => (trapped_any L.pb L.bbP L.ubP L.pv R.last (w.drewN q) ((drewN_below w q).block _ hb.lt |>.trans hb)).mono fun e w' ⟨h1, q', h2⟩ => ⟨h1, _, h2.trans (World.drewN_drewN _ _ _)⟩
    generalize halR R = x at *
    generalize traR R = y at *
    clear c20 h hr hb
    go_enter Try.func19, Try.ntmps19
    go_wp2_with fail
    refine HH.out.mono ?_
    rintro e w1 ⟨rfl, q, rfl⟩
    clear HH
    have c201 := c20' q
    cases x
    · go_wp2_with fail
      refine (HT.out q).mono ?_
      rintro e w1 ⟨rfl, q2, rfl⟩
      clear HT
      go_wp2_with fail
      go_ret
      exact ⟨rfl, _, rfl⟩
    · clear HT
      go_wp2_with fail
      go_ret
      exact ⟨rfl, _, rfl⟩
/-! ### A copy's state read out -/
def stV (r : Nat → Int) (pc : Int) : Array Value := #[.int .u32 (r 0), .int .u32 (r 1), .int .u32 (r 2), .int .u32 (r 3), .int .u32 (r 4), .int .u32 (r 5), .int .u32 (r 6), .int .u32 (r 7), .int .u32 (r 8), .int .u32 (r 9), .int .u32 (r 10), .int .u32 (r 11), .int .u32 (r 12), .int .u32 (r 13), .int .u32 (r 14), .int .u32 (r 15), .int .u32 pc]
theorem stV_set (r : Nat → Int) (pc : Int) (j : Nat) (h : j < 16) (x : Int) : (stV r pc).setIfInBounds j (.int .u32 x) = stV (upd r j x) pc := by
  obtain rfl | rfl | rfl | rfl | rfl | rfl | rfl | rfl | rfl | rfl | rfl | rfl | rfl | rfl | rfl | rfl : j = 0 ∨ j = 1 ∨ j = 2 ∨ j = 3 ∨ j = 4 ∨ j = 5 ∨ j = 6 ∨ j = 7 ∨ j = 8 ∨ j = 9 ∨ j = 10 ∨ j = 11 ∨ j = 12 ∨ j = 13 ∨ j = 14 ∨ j = 15 := by omega
  all_goals rfl
theorem stV_get (r : Nat → Int) (pc : Int) (j : Nat) (h : j < 16) : (stV r pc)[j]? = some (.int .u32 (r j)) := by
  obtain rfl | rfl | rfl | rfl | rfl | rfl | rfl | rfl | rfl | rfl | rfl | rfl | rfl | rfl | rfl | rfl : j = 0 ∨ j = 1 ∨ j = 2 ∨ j = 3 ∨ j = 4 ∨ j = 5 ∨ j = 6 ∨ j = 7 ∨ j = 8 ∨ j = 9 ∨ j = 10 ∨ j = 11 ∨ j = 12 ∨ j = 13 ∨ j = 14 ∨ j = 15 := by omega
  all_goals rfl
theorem stV_congr {r r' : Nat → Int} (pc : Int) (h : ∀ j, j < 16 → r j = r' j) : stV r pc = stV r' pc := by
  unfold stV
  rw [h 0 (by decide), h 1 (by decide), h 2 (by decide), h 3 (by decide), h 4 (by decide), h 5 (by decide), h 6 (by decide), h 7 (by decide), h 8 (by decide), h 9 (by decide), h 10 (by decide), h 11 (by decide), h 12 (by decide), h 13 (by decide), h 14 (by decide), h 15 (by decide)]
set_option maxRecDepth 100000 in
theorem size55 : (Try.prog.info? 55).map (·.size) = some 17 := by kernel_rfl
def fr22 (pb o tb sb j : Nat) (u : Nat → Value) : Act :=
  { tmps := ((.pointer (some ⟨pb, 0, none⟩)) :: (u 1) :: (u 2) :: (u 3) :: (.pointer (some ⟨tb, 0, none⟩)) :: (.pointer (some ⟨pb, o, none⟩)) :: (.pointer (some ⟨sb, 0, none⟩)) :: (u 7) :: (u 8) :: (u 9) :: (u 10) :: (u 11) :: (u 12) :: (u 13) :: (u 14) :: (u 15) :: (u 16) :: (u 17) :: (u 18) :: (.int .i64 (j : Nat)) :: (u 20) :: (u 21) :: (u 22) :: (u 23) :: (u 24) :: (u 25) :: (u 26) :: (u 27) :: (u 28) :: (u 29) :: [] : List Value).toArray, defers := [] }
set_option linter.unusedVariables false in
set_option linter.unusedSimpArgs false in
set_option maxRecDepth 100000 in
set_option maxHeartbeats 4000000 in
theorem state_0 (pb bb cb ub : Nat) (fv pv : Value) (r0 : REP) (B : BD) (w : World) (hp : Blk w pb (pairV bb ub pv r0) 93) (hb : BR w bb cb fv B) :
    Calls Try.prog 22 #[.pointer (some ⟨pb, 0, none⟩), .int .i64 0] w fun e w' => e = .returned (.agg (stV (fun j => B.get j) (B.get 16))) ∧ Below w.heap.size w w' := by
  have hcr : ∀ w1, Below w.heap.size w w1 → CR w1 pb 1 bb 0 pv ∧ BR w1 bb cb fv B := fun w1 k => by
    have h1 : Blk w1 pb (pairV bb ub pv r0) 93 := (k.block _ hp.lt).trans hp
    exact ⟨⟨h1.cell 1, h1.cell (1 + 1), h1.cell (1 + 2)⟩, hb.below k⟩
  obtain ⟨W, hW⟩ : ∃ W, w.alloc (.cells #[.int .u32 0, .int .u32 0, .int .u32 0, .int .u32 0, .int .u32 0, .int .u32 0, .int .u32 0, .int .u32 0, .int .u32 0, .int .u32 0, .int .u32 0, .int .u32 0, .int .u32 0, .int .u32 0, .int .u32 0, .int .u32 0, .int .u32 0] 55) = W := ⟨_, rfl⟩
  have HBW : Hid (Below w.heap.size w W ∧ Blk W w.heap.size (stV (fun _ => 0) 0) 55) := by rw [← hW]; exact ⟨(Below.refl _ _).alloc (Nat.le_refl _) _, Blk.new _ _ _⟩
  obtain ⟨px, hpx⟩ : ∃ px, B.get 16 = px := ⟨_, rfl⟩
  have HPC : Hid (Calls Try.prog 42 #[.pointer (some ⟨pb, 1, none⟩)] W fun e w' => e = .returned (.int .u32 px) ∧ Below W.heap.size W w') := by
    rw [← hpx]
    obtain ⟨k1, k2⟩ := hcr W HBW.out.1
    exact pc_any pb 1 bb cb 0 (by decide) fv pv B W k1 k2
  have HRG : Hid (∀ (n : Nat) (w1 : World), n < 16 → Below w.heap.size w w1 → Calls Try.prog 43 #[.pointer (some ⟨pb, 1, none⟩), .int .i64 (n : Nat)] w1 fun e w' => e = .returned (.int .u32 (B.get (0 + n))) ∧ Below w1.heap.size w1 w') := fun n w1 hn k => by
    obtain ⟨k1, k2⟩ := hcr w1 k
    exact reg_any pb 1 bb cb 0 n hn (by decide) fv pv B w1 k1 k2
  rw [hpx]
  have HWW := hid_of hW
  clear hcr hb hp hpx
  go_enter Try.func22, Try.ntmps22
  go_upto_region 4 with fail
  clear hW
  go_wp2_with fail
  refine HPC.out.mono ?_
  rintro e w1 ⟨rfl, hb1⟩
  obtain ⟨W2, hW2⟩ : ∃ W, w1.alloc (.cells #[.int .u32 0, .int .u32 0, .int .u32 0, .int .u32 0, .int .u32 0, .int .u32 0, .int .u32 0, .int .u32 0, .int .u32 0, .int .u32 0, .int .u32 0, .int .u32 0, .int .u32 0, .int .u32 0, .int .u32 0, .int .u32 0, .int .u32 px] 55) = W := ⟨_, rfl⟩
  obtain ⟨sb, hsb⟩ : ∃ sb, w1.heap.size = sb := ⟨_, rfl⟩
  have HB2 : Hid (Blk W2 sb (stV (fun _ => 0) px) 55 ∧ Blk W2 w.heap.size (stV (fun _ => 0) 0) 55 ∧ Below w.heap.size w W2 ∧ w.heap.size < sb) := by
    have b1 : Below w.heap.size w w1 := HBW.out.1.trans (hb1.mono HBW.out.1.size)
    have t1 : Blk w1 w.heap.size (stV (fun _ => 0) 0) 55 := (hb1.block _ HBW.out.2.lt).trans HBW.out.2
    rw [← hW2, ← hsb]
    exact ⟨Blk.new _ _ _, t1.alloc _, b1.alloc b1.size _, t1.lt⟩
  have HW2 := hid_of hW2
  have HSB := hid_of hsb
  clear HPC hb1 hW2 hsb HBW
  go_upto_region 5 with ((with_reducible show wpList _ _ _ ({ dst := none, op := Op.store 55 _ _, type := _, pos := _, after := _, guard := _ } :: _) _ _); refine wpList_store_row (by rfl) 55 (.tmp 6) (.tmp 18) (by rfl) w1.heap.size #[.int .u32 0, .int .u32 0, .int .u32 0, .int .u32 0, .int .u32 0, .int .u32 0, .int .u32 0, .int .u32 0, .int .u32 0, .int .u32 0, .int .u32 0, .int .u32 0, .int .u32 0, .int .u32 0, .int .u32 0, .int .u32 0, .int .u32 px] (by kernel_rfl) (by kernel_rfl) 55 _ (Blk.new _ _ _) (by rw [size55]; rfl) (by rfl) (by simp [Value.oneCell']) ?_; rw [World.setRow_alloc_new])
  rw [HW2.out, HSB.out]
  clear HW2 HSB
  go_wp2_with fail
  refine q_of (Q := fun a => (Code.loop _).wp Try.prog _ a _) (F := fr22 pb 1 w.heap.size sb 0) (fun u0 => ?_) _ (by kernel_rfl)
  refine wp_loop (fun act wr => ∃ (u : Nat → Value) (j : Nat) (r : Nat → Int), act = fr22 pb 1 w.heap.size sb j u ∧ Hid (j ≤ 16 ∧ Blk wr sb (stV r px) 55 ∧ Blk wr w.heap.size (stV (fun _ => 0) 0) 55 ∧ Below w.heap.size w wr ∧ (∀ i, i < j → r i = B.get (0 + i)))) (fun act _ => 16 - (intOf (act.tmps.getD 19 undef)).toNat) ⟨u0, 0, fun _ => 0, rfl, by decide, HB2.out.1, HB2.out.2.1, HB2.out.2.2.1, fun i hi => absurd hi (by omega)⟩ ?_
  have HLT : Hid (w.heap.size < sb) := HB2.out.2.2.2
  clear HB2
  rintro act wr ⟨u, j, r, rfl, HR⟩
  by_cases hj : j < 16
  · have hji : ((j : Nat) : Int) < 16 := by omega
    have hadd : IntKind.i64.wrap (((j : Nat) : Int) + 1) = (j : Nat) + 1 := by simp [IntKind.wrap, IntKind.bits, IntKind.signed]; omega
    have HRG1 := hid_of (HRG.out j wr hj HR.out.2.2.2.1)
    obtain ⟨x, hx⟩ : ∃ x, B.get (0 + j) = x := ⟨_, rfl⟩
    rw [hx] at HRG1
    have HX := hid_of hx
    obtain ⟨KR, hKR⟩ : ∃ KR : Act → World → Prop, KR = fun a' w' => ((fun act wr => ∃ (u : Nat → Value) (j : Nat) (r : Nat → Int), act = fr22 pb 1 w.heap.size sb j u ∧ Hid (j ≤ 16 ∧ Blk wr sb (stV r px) 55 ∧ Blk wr w.heap.size (stV (fun _ => 0) 0) 55 ∧ Below w.heap.size w wr ∧ (∀ i, i < j → r i = B.get (0 + i)))) a' w' ∧ 16 - (intOf (a'.tmps.getD 19 undef)).toNat < 16 - (intOf ((fr22 pb 1 w.heap.size sb j u).tmps.getD 19 undef)).toNat) := ⟨_, rfl⟩
    have HKR : Hid (∀ (act : Act) (w' : World), act = fr22 pb 1 w.heap.size sb (j + 1) (fun i => act.tmps.getD i undef) → Blk w' sb (stV (upd r j x) px) 55 → Blk w' w.heap.size (stV (fun _ => 0) 0) 55 → Below w.heap.size w w' → KR act w') := fun act w' e h1 h2 h3 => by
      rw [hKR]
      refine ⟨⟨_, j + 1, upd r j x, e, hj, h1, h2, h3, fun i hi => ?_⟩, ?_⟩
      · by_cases q : i = j
        · rw [q, upd_same]; exact HX.out.symm
        · rw [upd_ne _ _ _ _ q]; exact HR.out.2.2.2.2 i (by omega)
      · have e1 : act.tmps.getD 19 undef = .int .i64 ((j + 1 : Nat) : Int) := by rw [e]; rfl
        have e2 : (fr22 pb 1 w.heap.size sb j u).tmps.getD 19 undef = .int .i64 ((j : Nat) : Int) := rfl
        simp only [e1, e2, intOf]
        omega
    rw [← hKR]
    have HJ := hid_of hj
    clear hKR hx hj
    unfold fr22
    go_wp2_with fail
    refine HRG1.out.mono ?_
    rintro e w2 ⟨rfl, hb2⟩
    have hs2 : Blk w2 sb (stV r px) 55 := (hb2.block _ HR.out.2.1.lt).trans HR.out.2.1
    have ht2 : Blk w2 w.heap.size (stV (fun _ => 0) 0) 55 := (hb2.block _ HR.out.2.2.1.lt).trans HR.out.2.2.1
    have hbe2 : Below w.heap.size w w2 := HR.out.2.2.2.1.trans (hb2.mono HR.out.2.2.2.1.size)
    obtain ⟨cs, hcs⟩ : ∃ cs, stV r px = cs := ⟨_, rfl⟩
    rw [hcs] at hs2
    obtain ⟨u9, hu9, hl9⟩ := hs2.out
    have hget : cs[j]? = some (.int .u32 (r j)) := by rw [← hcs]; exact stV_get r px j HJ.out
    have HSET : Hid (cs.setIfInBounds j (.int .u32 x) = stV (upd r j x) px) := by
      unfold Hid
      rw [← hcs]
      exact stV_set r px j HJ.out x
    have HFIN : Hid (Blk (put u9 sb (stV (upd r j x) px) 55) sb (stV (upd r j x) px) 55 ∧ Blk (put u9 sb (stV (upd r j x) px) 55) w.heap.size (stV (fun _ => 0) 0) 55 ∧ Below w.heap.size w (put u9 sb (stV (upd r j x) px) 55)) := by
      have h1 := ht2.put_ne (b := sb) (cs := stV (upd r j x) px) (T := 55) (by have := HLT.out; omega)
      have h2 := Below.put hbe2 (b := sb) (by have := HLT.out; omega) (stV (upd r j x) px) 55
      rw [hu9, put_put] at h1 h2
      exact ⟨Blk.put_same hl9, h1, h2⟩
    clear HRG1 hb2 hs2 ht2 hbe2 HR hcs
    subst hu9
    go_wp2_with fail
    rw [HSET.out]
    exact HKR.out _ _ (by kernel_rfl) HFIN.out.1 HFIN.out.2.1 HFIN.out.2.2
  · have hji : ¬ ((j : Nat) : Int) < 16 := by omega
    have hj16 : j = 16 := by have := HR.out.1; omega
    have HEQ : Hid (stV r px = stV (fun j => B.get j) px) := stV_congr px fun i hi => by have := HR.out.2.2.2.2 i (by omega); rw [Nat.zero_add] at this; exact this
    clear hj hj16
    obtain ⟨cs, hcs⟩ : ∃ cs, stV r px = cs := ⟨_, rfl⟩
    have HB1 : Hid (Blk wr sb cs 55) := by rw [← hcs]; exact HR.out.2.1
    have HB2 : Hid (Blk wr w.heap.size (stV (fun _ => 0) 0) 55) := HR.out.2.2.1
    have HSZ : Hid (cs.size = 17 ∧ cs.all (·.oneCell') = true) := by rw [← hcs]; exact ⟨rfl, by simp [stV, Value.oneCell']⟩
    have HFIN : Hid (Below w.heap.size w (put wr w.heap.size cs 55)) := Below.put HR.out.2.2.2.1 (b := w.heap.size) (Nat.le_refl _) cs 55
    have HCS : Hid (cs = stV (fun j => B.get j) px) := hcs.symm.trans HEQ.out
    clear HR hcs HEQ
    unfold fr22
    go_upto_region 10 with fail
    refine wp_region_list ?_
    refine wpList_load_row rfl 55 (.tmp 6) rfl sb rfl 55 cs (0, 0) _ HB1.out Try.underlying55 rfl (by rw [size55, HSZ.out.1]) ?_
    go_wp2_with ((with_reducible show wpList _ _ _ ({ dst := none, op := Op.store 55 _ _, type := _, pos := _, after := _, guard := _ } :: _) _ _); refine wpList_store_row (by rfl) 55 (.tmp 4) (.tmp 29) (by rfl) w.heap.size cs (by kernel_rfl) (by kernel_rfl) 55 _ HB2.out (by rw [size55, HSZ.out.1]) (by rw [HSZ.out.1]; rfl) HSZ.out.2 ?_; rw [setRow_put HB2.out])
    exact bodyPost_ret (v := .agg cs) (results_cell_row (by rfl) _ _ w.heap.size 55 _ (0, 0) _ (by rfl) (Blk.put_same HB2.out.lt) Try.underlying55 rfl (by rw [size55, HSZ.out.1])) rfl ⟨by rw [HCS.out], HFIN.out⟩
set_option linter.unusedVariables false in
set_option linter.unusedSimpArgs false in
set_option maxRecDepth 100000 in
set_option maxHeartbeats 4000000 in
theorem state_1 (pb bb cb ub : Nat) (fv pv : Value) (r0 : REP) (B : BD) (w : World) (hp : Blk w pb (pairV bb ub pv r0) 93) (hb : BR w bb cb fv B) :
    Calls Try.prog 22 #[.pointer (some ⟨pb, 0, none⟩), .int .i64 1] w fun e w' => e = .returned (.agg (stV (fun j => B.get (18 + j)) (B.get 34))) ∧ Below w.heap.size w w' := by
  have hcr : ∀ w1, Below w.heap.size w w1 → CR w1 pb 4 bb 18 pv ∧ BR w1 bb cb fv B := fun w1 k => by
    have h1 : Blk w1 pb (pairV bb ub pv r0) 93 := (k.block _ hp.lt).trans hp
    exact ⟨⟨h1.cell 4, h1.cell (4 + 1), h1.cell (4 + 2)⟩, hb.below k⟩
  obtain ⟨W, hW⟩ : ∃ W, w.alloc (.cells #[.int .u32 0, .int .u32 0, .int .u32 0, .int .u32 0, .int .u32 0, .int .u32 0, .int .u32 0, .int .u32 0, .int .u32 0, .int .u32 0, .int .u32 0, .int .u32 0, .int .u32 0, .int .u32 0, .int .u32 0, .int .u32 0, .int .u32 0] 55) = W := ⟨_, rfl⟩
  have HBW : Hid (Below w.heap.size w W ∧ Blk W w.heap.size (stV (fun _ => 0) 0) 55) := by rw [← hW]; exact ⟨(Below.refl _ _).alloc (Nat.le_refl _) _, Blk.new _ _ _⟩
  obtain ⟨px, hpx⟩ : ∃ px, B.get 34 = px := ⟨_, rfl⟩
  have HPC : Hid (Calls Try.prog 42 #[.pointer (some ⟨pb, 4, none⟩)] W fun e w' => e = .returned (.int .u32 px) ∧ Below W.heap.size W w') := by
    rw [← hpx]
    obtain ⟨k1, k2⟩ := hcr W HBW.out.1
    exact pc_any pb 4 bb cb 18 (by decide) fv pv B W k1 k2
  have HRG : Hid (∀ (n : Nat) (w1 : World), n < 16 → Below w.heap.size w w1 → Calls Try.prog 43 #[.pointer (some ⟨pb, 4, none⟩), .int .i64 (n : Nat)] w1 fun e w' => e = .returned (.int .u32 (B.get (18 + n))) ∧ Below w1.heap.size w1 w') := fun n w1 hn k => by
    obtain ⟨k1, k2⟩ := hcr w1 k
    exact reg_any pb 4 bb cb 18 n hn (by decide) fv pv B w1 k1 k2
  rw [hpx]
  have HWW := hid_of hW
  clear hcr hb hp hpx
  go_enter Try.func22, Try.ntmps22
  go_upto_region 4 with fail
  clear hW
  go_wp2_with fail
  refine HPC.out.mono ?_
  rintro e w1 ⟨rfl, hb1⟩
  obtain ⟨W2, hW2⟩ : ∃ W, w1.alloc (.cells #[.int .u32 0, .int .u32 0, .int .u32 0, .int .u32 0, .int .u32 0, .int .u32 0, .int .u32 0, .int .u32 0, .int .u32 0, .int .u32 0, .int .u32 0, .int .u32 0, .int .u32 0, .int .u32 0, .int .u32 0, .int .u32 0, .int .u32 px] 55) = W := ⟨_, rfl⟩
  obtain ⟨sb, hsb⟩ : ∃ sb, w1.heap.size = sb := ⟨_, rfl⟩
  have HB2 : Hid (Blk W2 sb (stV (fun _ => 0) px) 55 ∧ Blk W2 w.heap.size (stV (fun _ => 0) 0) 55 ∧ Below w.heap.size w W2 ∧ w.heap.size < sb) := by
    have b1 : Below w.heap.size w w1 := HBW.out.1.trans (hb1.mono HBW.out.1.size)
    have t1 : Blk w1 w.heap.size (stV (fun _ => 0) 0) 55 := (hb1.block _ HBW.out.2.lt).trans HBW.out.2
    rw [← hW2, ← hsb]
    exact ⟨Blk.new _ _ _, t1.alloc _, b1.alloc b1.size _, t1.lt⟩
  have HW2 := hid_of hW2
  have HSB := hid_of hsb
  clear HPC hb1 hW2 hsb HBW
  go_upto_region 5 with ((with_reducible show wpList _ _ _ ({ dst := none, op := Op.store 55 _ _, type := _, pos := _, after := _, guard := _ } :: _) _ _); refine wpList_store_row (by rfl) 55 (.tmp 6) (.tmp 18) (by rfl) w1.heap.size #[.int .u32 0, .int .u32 0, .int .u32 0, .int .u32 0, .int .u32 0, .int .u32 0, .int .u32 0, .int .u32 0, .int .u32 0, .int .u32 0, .int .u32 0, .int .u32 0, .int .u32 0, .int .u32 0, .int .u32 0, .int .u32 0, .int .u32 px] (by kernel_rfl) (by kernel_rfl) 55 _ (Blk.new _ _ _) (by rw [size55]; rfl) (by rfl) (by simp [Value.oneCell']) ?_; rw [World.setRow_alloc_new])
  rw [HW2.out, HSB.out]
  clear HW2 HSB
  go_wp2_with fail
  refine q_of (Q := fun a => (Code.loop _).wp Try.prog _ a _) (F := fr22 pb 4 w.heap.size sb 0) (fun u0 => ?_) _ (by kernel_rfl)
  refine wp_loop (fun act wr => ∃ (u : Nat → Value) (j : Nat) (r : Nat → Int), act = fr22 pb 4 w.heap.size sb j u ∧ Hid (j ≤ 16 ∧ Blk wr sb (stV r px) 55 ∧ Blk wr w.heap.size (stV (fun _ => 0) 0) 55 ∧ Below w.heap.size w wr ∧ (∀ i, i < j → r i = B.get (18 + i)))) (fun act _ => 16 - (intOf (act.tmps.getD 19 undef)).toNat) ⟨u0, 0, fun _ => 0, rfl, by decide, HB2.out.1, HB2.out.2.1, HB2.out.2.2.1, fun i hi => absurd hi (by omega)⟩ ?_
  have HLT : Hid (w.heap.size < sb) := HB2.out.2.2.2
  clear HB2
  rintro act wr ⟨u, j, r, rfl, HR⟩
  by_cases hj : j < 16
  · have hji : ((j : Nat) : Int) < 16 := by omega
    have hadd : IntKind.i64.wrap (((j : Nat) : Int) + 1) = (j : Nat) + 1 := by simp [IntKind.wrap, IntKind.bits, IntKind.signed]; omega
    have HRG1 := hid_of (HRG.out j wr hj HR.out.2.2.2.1)
    obtain ⟨x, hx⟩ : ∃ x, B.get (18 + j) = x := ⟨_, rfl⟩
    rw [hx] at HRG1
    have HX := hid_of hx
    obtain ⟨KR, hKR⟩ : ∃ KR : Act → World → Prop, KR = fun a' w' => ((fun act wr => ∃ (u : Nat → Value) (j : Nat) (r : Nat → Int), act = fr22 pb 4 w.heap.size sb j u ∧ Hid (j ≤ 16 ∧ Blk wr sb (stV r px) 55 ∧ Blk wr w.heap.size (stV (fun _ => 0) 0) 55 ∧ Below w.heap.size w wr ∧ (∀ i, i < j → r i = B.get (18 + i)))) a' w' ∧ 16 - (intOf (a'.tmps.getD 19 undef)).toNat < 16 - (intOf ((fr22 pb 4 w.heap.size sb j u).tmps.getD 19 undef)).toNat) := ⟨_, rfl⟩
    have HKR : Hid (∀ (act : Act) (w' : World), act = fr22 pb 4 w.heap.size sb (j + 1) (fun i => act.tmps.getD i undef) → Blk w' sb (stV (upd r j x) px) 55 → Blk w' w.heap.size (stV (fun _ => 0) 0) 55 → Below w.heap.size w w' → KR act w') := fun act w' e h1 h2 h3 => by
      rw [hKR]
      refine ⟨⟨_, j + 1, upd r j x, e, hj, h1, h2, h3, fun i hi => ?_⟩, ?_⟩
      · by_cases q : i = j
        · rw [q, upd_same]; exact HX.out.symm
        · rw [upd_ne _ _ _ _ q]; exact HR.out.2.2.2.2 i (by omega)
      · have e1 : act.tmps.getD 19 undef = .int .i64 ((j + 1 : Nat) : Int) := by rw [e]; rfl
        have e2 : (fr22 pb 4 w.heap.size sb j u).tmps.getD 19 undef = .int .i64 ((j : Nat) : Int) := rfl
        simp only [e1, e2, intOf]
        omega
    rw [← hKR]
    have HJ := hid_of hj
    clear hKR hx hj
    unfold fr22
    go_wp2_with fail
    refine HRG1.out.mono ?_
    rintro e w2 ⟨rfl, hb2⟩
    have hs2 : Blk w2 sb (stV r px) 55 := (hb2.block _ HR.out.2.1.lt).trans HR.out.2.1
    have ht2 : Blk w2 w.heap.size (stV (fun _ => 0) 0) 55 := (hb2.block _ HR.out.2.2.1.lt).trans HR.out.2.2.1
    have hbe2 : Below w.heap.size w w2 := HR.out.2.2.2.1.trans (hb2.mono HR.out.2.2.2.1.size)
    obtain ⟨cs, hcs⟩ : ∃ cs, stV r px = cs := ⟨_, rfl⟩
    rw [hcs] at hs2
    obtain ⟨u9, hu9, hl9⟩ := hs2.out
    have hget : cs[j]? = some (.int .u32 (r j)) := by rw [← hcs]; exact stV_get r px j HJ.out
    have HSET : Hid (cs.setIfInBounds j (.int .u32 x) = stV (upd r j x) px) := by
      unfold Hid
      rw [← hcs]
      exact stV_set r px j HJ.out x
    have HFIN : Hid (Blk (put u9 sb (stV (upd r j x) px) 55) sb (stV (upd r j x) px) 55 ∧ Blk (put u9 sb (stV (upd r j x) px) 55) w.heap.size (stV (fun _ => 0) 0) 55 ∧ Below w.heap.size w (put u9 sb (stV (upd r j x) px) 55)) := by
      have h1 := ht2.put_ne (b := sb) (cs := stV (upd r j x) px) (T := 55) (by have := HLT.out; omega)
      have h2 := Below.put hbe2 (b := sb) (by have := HLT.out; omega) (stV (upd r j x) px) 55
      rw [hu9, put_put] at h1 h2
      exact ⟨Blk.put_same hl9, h1, h2⟩
    clear HRG1 hb2 hs2 ht2 hbe2 HR hcs
    subst hu9
    go_wp2_with fail
    rw [HSET.out]
    exact HKR.out _ _ (by kernel_rfl) HFIN.out.1 HFIN.out.2.1 HFIN.out.2.2
  · have hji : ¬ ((j : Nat) : Int) < 16 := by omega
    have hj16 : j = 16 := by have := HR.out.1; omega
    have HEQ : Hid (stV r px = stV (fun j => B.get (18 + j)) px) := stV_congr px fun i hi => HR.out.2.2.2.2 i (by omega)
    clear hj hj16
    obtain ⟨cs, hcs⟩ : ∃ cs, stV r px = cs := ⟨_, rfl⟩
    have HB1 : Hid (Blk wr sb cs 55) := by rw [← hcs]; exact HR.out.2.1
    have HB2 : Hid (Blk wr w.heap.size (stV (fun _ => 0) 0) 55) := HR.out.2.2.1
    have HSZ : Hid (cs.size = 17 ∧ cs.all (·.oneCell') = true) := by rw [← hcs]; exact ⟨rfl, by simp [stV, Value.oneCell']⟩
    have HFIN : Hid (Below w.heap.size w (put wr w.heap.size cs 55)) := Below.put HR.out.2.2.2.1 (b := w.heap.size) (Nat.le_refl _) cs 55
    have HCS : Hid (cs = stV (fun j => B.get (18 + j)) px) := hcs.symm.trans HEQ.out
    clear HR hcs HEQ
    unfold fr22
    go_upto_region 10 with fail
    refine wp_region_list ?_
    refine wpList_load_row rfl 55 (.tmp 6) rfl sb rfl 55 cs (0, 0) _ HB1.out Try.underlying55 rfl (by rw [size55, HSZ.out.1]) ?_
    go_wp2_with ((with_reducible show wpList _ _ _ ({ dst := none, op := Op.store 55 _ _, type := _, pos := _, after := _, guard := _ } :: _) _ _); refine wpList_store_row (by rfl) 55 (.tmp 4) (.tmp 29) (by rfl) w.heap.size cs (by kernel_rfl) (by kernel_rfl) 55 _ HB2.out (by rw [size55, HSZ.out.1]) (by rw [HSZ.out.1]; rfl) HSZ.out.2 ?_; rw [setRow_put HB2.out])
    exact bodyPost_ret (v := .agg cs) (results_cell_row (by rfl) _ _ w.heap.size 55 _ (0, 0) _ (by rfl) (Blk.put_same HB2.out.lt) Try.underlying55 rfl (by rw [size55, HSZ.out.1])) rfl ⟨by rw [HCS.out], HFIN.out⟩
end Go.Proofs.Qxb6500749a
