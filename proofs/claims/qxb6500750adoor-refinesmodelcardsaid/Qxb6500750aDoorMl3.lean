import Derived.Test.Qxb6500750aDoorMla
import Derived.Deep.MidRow
namespace Go.Proofs.Qxb6500750aDoor
open Go.RowKit
attribute [local go_sem] put_size put_cell_same put_cell_ne put_frozen_same put_frozen_ne put_setCell_same put_setCell_ne put_drew
attribute [local go_sem] drewN_setCell drewN_alloc drewN_put
/-! ### The law: the crossbar refines the machine -/
def own0 (k : Nat) : Nat := if k = 0 ∨ k = 1 ∨ k = 3 then 9 else 8
def SX (k : Nat) : Prop := k ≤ 7 ∨ 30 ≤ k
theorem own0_SX (k : Nat) : ¬ SX (own0 k) := by
  unfold own0 SX
  split <;> omega
theorem below_of_ext {own' : Nat → Nat} {w w' : World} (h : Ext own0 own' SX w w') : Below w.heap.size w w' := ⟨h.os, h.tape, h.output, h.size, fun k hk => h.block k hk (own0_SX k)⟩
section
variable {P : Program} {ops : Array Oper} {rest : List Oper} {o : Oper} {a : Act} {w : World} {Q : Exit → Act → World → Prop}
theorem wpList_neq_no (hgd : o.guard = none) (ty : TypeId) (x y : Operand) (z : TypeId) (ho : o.op = .binOp .neq ty x y z) (c : Array Value) (hx : a.eval x = .agg c) (hy : a.eval y = .agg c)
    (hm : P.eqGuardType P.depth ty = false) (he : (Op.equalIn 10000 ty (.agg c) (.agg c)).run P w = .ok true w)
    (h : wpList P ops Q rest (a.put o.dst (.bool false)) w) : wpList P ops Q (o :: rest) a w :=
  wpList_plain hgd fun K hK => by
    unfold Oper.wp execOp
    simp only [ho, hx, hy, Sem.run_bind, run_eqGuard_agg w .neq ty x y c c hm, Result.andThen_ok, run_neq_struct, he, Sem.run_pure]
    exact hK _ _ h
end
structure L3 (w : World) (rg xb : Nat) (pbs : Nat → Nat) (mb k : Nat) (own' : Nat → Nat) (σ : SS) (M : MA) (tb : Nat → Int → Nat) (wr : World) : Prop where
  rr : RRep own' wr rg xb pbs σ
  mr : MR own' wr mb M tb σ
  glb : Glb own' wr
  inv : XInv (k : Nat) (14 * k) σ
  cln : Clean σ.x
  ext : Ext own0 own' SX w wr
def links6 (pbs : Nat → Nat) : Array Value := #[.pointer (some ⟨pbs 0, 0, none⟩), .pointer (some ⟨pbs 1, 0, none⟩), .pointer (some ⟨pbs 2, 0, none⟩), .pointer (some ⟨pbs 3, 0, none⟩), .pointer (some ⟨pbs 4, 0, none⟩), .pointer (some ⟨pbs 5, 0, none⟩)]
theorem links_range {w : World} {rg xb : Nat} {pbs : Nat → Nat} (h : Blk w rg (encG (.pointer (some ⟨xb, 0, none⟩)) (lk pbs)) 49) : w.rangeAt rg 1 (links6 pbs).toList := by
  intro j v hv
  rw [h.cell]
  have hj : j < 6 := (List.getElem?_eq_some_iff.1 hv).1
  rw [gg_s _ _ _ hj, lk_lt _ _ hj]
  obtain rfl | rfl | rfl | rfl | rfl | rfl : j = 0 ∨ j = 1 ∨ j = 2 ∨ j = 3 ∨ j = 4 ∨ j = 5 := by omega
  all_goals exact hv
/-- Link and target show the same. -/
theorem L3.link {w wr : World} {rg xb mb k : Nat} {pbs : Nat → Nat} {own' : Nat → Nat} {σ : SS} {M : MA} {tb : Nat → Int → Nat} (h : L3 w rg xb pbs mb k own' σ M tb wr) (hk : 14 * k < 1000000000) {s : Nat} (hs : s < 6) : ∃ a cap av, LinkOK wr mb s (pbs s) (σ.p s) a cap av := by
  obtain ⟨L, e, hP⟩ := h.rr.x.port s hs
  obtain ⟨a, cap, hv⟩ := hP.atts.form'
  have hS := hP.atts
  rw [hv] at hS
  have kt := h.mr.tgt s (by omega)
  have hAc := kt.acted
  rw [if_pos hs, if_pos hs] at hAc
  have hW := kt.words
  rw [if_pos hs] at hW
  refine ⟨a, cap, (M.tg s).av, ?_, hS, hAc, fun V hV => ?_, fun V hV => ?_, fun V hV x => ?_, fun V hV x => ?_⟩
  · have := (h.inv.port s hs).a; omega
  · have := attempts_any L (σ.p s) V ((hV.block _ hP.blk.lt).trans hP.blk)
    rw [e, hv] at this
    exact this
  · exact acted_any mb s (by omega) M V ((hV.block _ h.mr.blk.lt).trans h.mr.blk)
  · have := word_any L (σ.p s) V ((hV.block _ hP.blk.lt).trans hP.blk) (hP.map.same (hV.block _ hP.map.lt)) x
    rw [e] at this
    exact this
  · exact mword_any mb s (by omega) M V ((hV.block _ h.mr.blk.lt).trans h.mr.blk) _ (hW.same (hV.block _ hW.lt)) x
theorem guard43 : Tryd.prog.eqGuardType Tryd.prog.depth 43 = false := by kernel_rfl
def fr3m (rg mb : Nat) (a : Option Addr) (n c k : Nat) (u : Nat → Value) : Act :=
  { tmps := ((u 0) :: (u 1) :: (u 2) :: (.pointer (some ⟨rg, 0, none⟩)) :: (.pointer (some ⟨mb, 0, none⟩)) :: (u 5) :: (u 6) :: (u 7) :: (u 8) :: (u 9) :: (u 10) :: (u 11) :: (u 12) :: (u 13) :: (u 14) :: (u 15) :: (u 16) :: (u 17) :: (u 18) :: (.slice a n c) :: (.int .i64 (n : Nat)) :: (.int .i64 (k : Nat)) :: (u 22) :: (u 23) :: (u 24) :: (u 25) :: (u 26) :: (u 27) :: (u 28) :: (u 29) :: (u 30) :: (u 31) :: (u 32) :: (u 33) :: (u 34) :: (u 35) :: (u 36) :: (u 37) :: (u 38) :: (u 39) :: (u 40) :: (u 41) :: (u 42) :: (u 43) :: (u 44) :: (u 45) :: (u 46) :: (u 47) :: (u 48) :: (u 49) :: (u 50) :: (u 51) :: (u 52) :: (u 53) :: (u 54) :: (u 55) :: (u 56) :: (u 57) :: (u 58) :: (u 59) :: (u 60) :: (u 61) :: (u 62) :: (u 63) :: (u 64) :: (u 65) :: (u 66) :: (u 67) :: (u 68) :: (u 69) :: (u 70) :: (u 71) :: (u 72) :: (u 73) :: (u 74) :: (u 75) :: (u 76) :: (u 77) :: (u 78) :: (u 79) :: [] : List Value).toArray, defers := [] }

set_option maxRecDepth 100000 in
set_option maxHeartbeats 4000000 in
theorem lp3m {w W0 : World} {rg xb mb : Nat} {pbs : Nat → Nat} (a : Option Addr) (n c : Nat) (s : Nat → OpD) (hn : n ≤ 65536) (hs : Scr w a n s) (h0 : ∃ own' σ M tb, L3 w rg xb pbs mb 0 own' σ M tb W0) (u0 : Nat → Value) (Q : Exit → Act → World → Prop)
    (hQ : ∀ u wr own' σ M tb, L3 w rg xb pbs mb n own' σ M tb wr → Q (.exit 0) (fr3m rg mb a n c n u) wr) (body : Code) (hbody : body = ((Tryd.f3.body.map loopsOf).getD []).getD 0 .skip) :
    (Code.loop body).wp Tryd.prog Q (fr3m rg mb a n c 0 u0) W0 := by
  subst hbody
  conv => arg 2; arg 1; whnf
  refine wp_loop (fun act wr => ∃ (u : Nat → Value) (k : Nat), act = fr3m rg mb a n c k u ∧ k ≤ n ∧ Hid (∃ own' σ M tb, L3 w rg xb pbs mb k own' σ M tb wr)) (fun act _ => n - (intOf (act.tmps.getD 21 undef)).toNat) ?start ?round
  case start => exact ⟨u0, 0, rfl, by omega, h0⟩
  case round =>
    rintro a0 wr ⟨u, k, rfl, hk, hI⟩
    obtain ⟨KR, hKR⟩ : ∃ KR : Act → World → Prop, KR = fun a' w' => ((fun act wr => ∃ (u : Nat → Value) (k : Nat), act = fr3m rg mb a n c k u ∧ k ≤ n ∧ Hid (∃ own' σ M tb, L3 w rg xb pbs mb k own' σ M tb wr)) a' w' ∧ n - (intOf (a'.tmps.getD 21 undef)).toNat < n - (intOf ((fr3m rg mb a n c k u).tmps.getD 21 undef)).toNat) := ⟨_, rfl⟩
    have HKR : Hid (∀ (act : Act) (w' : World), act = fr3m rg mb a n c (k + 1) (fun i => act.tmps.getD i undef) → k < n → (∃ own' σ M tb, L3 w rg xb pbs mb (k + 1) own' σ M tb w') → KR act w') := fun act w' e hjl hl => by
      rw [hKR]
      refine ⟨⟨_, k + 1, e, hjl, hl⟩, ?_⟩
      have e1 : act.tmps.getD 21 undef = .int .i64 ((k + 1 : Nat) : Int) := by rw [e]; rfl
      have e2 : (fr3m rg mb a n c k u).tmps.getD 21 undef = .int .i64 ((k : Nat) : Int) := rfl
      simp only [e1, e2, intOf]
      omega
    rw [← hKR]
    clear hKR
    have HQ := hid_of hQ
    have hadd : IntKind.i64.wrap (((k : Nat) : Int) + 1) = (k : Nat) + 1 := by simp [IntKind.wrap, IntKind.bits, IntKind.signed]; omega
    by_cases hkn : k < n
    · have hki : ((k : Nat) : Int) < (n : Nat) := by omega
      obtain ⟨own1, σ, M, tb, hL⟩ := hI.out
      obtain ⟨hok, hcs⟩ := hs
      obtain ⟨b, off, rfl, hb, hcc⟩ := hcs (by omega)
      have hq := hcc k hkn
      have hbel := below_of_ext hL.ext
      have q0 := (hbel.cell (p := ⟨b, off + k * 4, none⟩) hb).trans hq.1
      have q1 := (hbel.cell (p := ⟨b, off + k * 4 + 1, none⟩) hb).trans hq.2.1
      have q2 := (hbel.cell (p := ⟨b, off + k * 4 + 2, none⟩) hb).trans hq.2.2.1
      have q3 := (hbel.cell (p := ⟨b, off + k * 4 + 3, none⟩) hb).trans hq.2.2.2
      have hkk := hok k hkn
      obtain ⟨o, ho⟩ : ∃ o, s k = o := ⟨_, rfl⟩
      rw [ho] at q0 q1 q2 q3 hkk
      have hop : OpOK o := ⟨hkk.1.1, hkk.2.1, hkk.2.2.1, hkk.2.2.2⟩
      obtain ⟨W1, hW1⟩ : ∃ W1, wr.alloc (.cells #[.int .u8 o.k, .int .u32 o.a, .int .u32 o.b, .int .u32 o.c] 31) = W1 := ⟨_, rfl⟩
      have hx1 : Ext own1 (mark own1 wr.heap.size 50) (fun _ => False) wr W1 := by rw [← hW1]; exact Ext.alloc own1 _ wr _ 50
      have hb1 : Blk W1 wr.heap.size (opC o) 31 := by rw [← hW1]; exact Blk.new _ _ _
      have hob : mark own1 wr.heap.size 50 wr.heap.size = 50 := mark_ge (Nat.le_refl _)
      have hx1' : Ext own1 (mark own1 wr.heap.size 50) (fun _ => False) wr W1.drew := hx1.drew
      obtain ⟨own2, hown2⟩ : ∃ own2, mark own1 wr.heap.size 50 = own2 := ⟨_, rfl⟩
      rw [hown2] at hx1' hob
      have hR1 := hL.rr.ext hx1' (fun _ _ q => q)
      have hM1 := hL.mr.ext hx1' (fun _ _ q => q)
      have hG1 := hL.glb.ext hx1' (fun q => q)
      have HST := hid_of (step_any own2 rg xb pbs σ o (hL.inv.stepOK hop (by omega) (by omega)) W1.drew hR1 hG1)
      have HE1 : Hid (Ext own0 own2 SX w W1.drew) := hL.ext.trans (hx1'.mono (fun _ q => q.elim))
      have HM1 := hid_of hM1
      have HG1 := hid_of hG1
      have HINV := hid_of hL.inv
      have HCLN := hid_of hL.cln
      have HOP := hid_of hop
      have HB1 : Hid (Blk W1.drew wr.heap.size (opC o) 31) := hb1
      obtain ⟨X, hX⟩ : ∃ X, encOb (stepO σ o) = X := ⟨_, rfl⟩
      have HEQ : Hid (∀ V, (Op.equalIn 10000 43 (.agg X) (.agg X)).run Tryd.prog V = .ok true V) := fun V => by rw [← hX]; exact eq43g _ _ _ _ V
      rw [hX] at HST
      have HX := hid_of hX
      have hopc : opC o = #[.int .u8 o.k, .int .u32 o.a, .int .u32 o.b, .int .u32 o.c] := rfl
      rw [hopc] at HST
      have c0 : W1.drew.cell? ⟨wr.heap.size, 0, none⟩ = some (.int .u8 o.k) := hb1.cell 0
      have c1 : W1.drew.cell? ⟨wr.heap.size, 1, none⟩ = some (.int .u32 o.a) := hb1.cell 1
      have c2 : W1.drew.cell? ⟨wr.heap.size, 2, none⟩ = some (.int .u32 o.b) := hb1.cell 2
      have c3 : W1.drew.cell? ⟨wr.heap.size, 3, none⟩ = some (.int .u32 o.c) := hb1.cell 3
      have hbl1 : wr.heap.size < W1.drew.heap.size := hb1.lt
      clear hQ h0 hI hL hok hcs hcc hq hbel hkk hop hx1 hx1' hb1 hR1 hM1 hG1 hX hown2 ho hopc
      unfold fr3m
      go_upto_region 7 with fail
      clear hW1 q0 q1 q2 q3
      refine wp_region_float [0, 1, 3, 4] [2, 5, 6] [0, 3] mixed (fun ω => ω.cell? ⟨wr.heap.size, 0, none⟩ = some (.int .u8 o.k) ∧ ω.cell? ⟨wr.heap.size, 1, none⟩ = some (.int .u32 o.a) ∧ ω.cell? ⟨wr.heap.size, 2, none⟩ = some (.int .u32 o.b) ∧ ω.cell? ⟨wr.heap.size, 3, none⟩ = some (.int .u32 o.c)) (by kernel_rfl) rfl (by kernel_rfl) ⟨c0, c1, c2, c3⟩ ?_
      iterate 4 refine wpFl_op _ _ _ _ rfl rfl (fun ω hj => by first | (obtain ⟨j1, j2, j3, j4⟩ := hj rfl; go_simp; rfl) | (go_simp; rfl)) ?_
      refine wpFl_nil _ _ ?_
      simp only [Act.put, List.setIfInBounds_toArray]
      refine wpCh_one _ _ _ _ rfl ?_
      simp only [List.getElem_toArray, List.getElem_cons_succ, List.getElem_cons_zero]
      go_wp2_with fail
      refine HST.out.mono ?_
      rintro e w2 ⟨rfl, own3, hR2, hx2⟩
      have hM2 := HM1.out.ext hx2 (fun j hj q => by unfold SM at hj; omega)
      have hG2 := HG1.out.ext hx2 (by omega)
      have hb2 := HB1.out.ext hx2 (by rw [hob]; omega)
      have hms := mstep_any hM2 HINV.out o HCLN.out HOP.out (by omega) (by omega) hG2
      rw [HX.out] at hms
      have HMS := hid_of hms
      have HB2 := hid_of hb2
      have HR2 := hid_of hR2
      have HG2 := hid_of hG2
      have HE2 : Hid (Ext own0 own3 SX w w2) := HE1.out.trans (hx2.mono (fun j q => by unfold SX; omega))
      have HI2 := hid_of (HINV.out.step HOP.out (by omega))
      have HC2 := hid_of (HCLN.out.step HINV.out o)
      have HB2c : Hid (∀ i, w2.cell? ⟨wr.heap.size, i, none⟩ = (opC o)[i]?) := fun i => HB2.out.cell i
      clear hR2 hx2 hM2 hG2 hb2 hms HST HE1 HM1 HG1 HB1 c0 c1 c2 c3
      unfold opC at HMS
      go_wp2_with fail
      refine ⟨⟨HB2c.out 0, HB2c.out 1, HB2c.out 2, HB2c.out 3⟩, ?_⟩
      refine wpCh_rest _ _ _ _ [_, _] _ _ rfl (by kernel_rfl) ?_
      simp only [List.getElem_toArray, List.getElem_cons_succ, List.getElem_cons_zero]
      go_wp2_with fail
      refine HMS.out.mono ?_
      rintro e w3 ⟨rfl, own4, M4, tb4, hM3, hx3⟩
      have HF : Hid (∃ own' σ M tb, L3 w rg xb pbs mb (k + 1) own' σ M tb w3) := ⟨own4, stepS σ o, M4, tb4, HR2.out.ext hx3 (fun j hj q => by unfold SM at q; omega), hM3, HG2.out.ext hx3 (by unfold SM; omega), HI2.out, HC2.out, HE2.out.trans (hx3.mono (fun j q => by unfold SX; unfold SM at q; omega))⟩
      clear hM3 hx3 HMS HR2 HG2 HE2 HI2 HC2 HB2 HB2c
      have heq := HEQ.out w3
      clear HEQ HX HINV HCLN HOP hob hbl1
      go_wp2_with ((with_reducible show wpList _ _ _ ({ dst := some 31, op := _, type := _, pos := _, after := _, guard := _ } :: _) _ _); refine wpList_neq_no (by rfl) 43 (.tmp 27) (.tmp 30) 43 (by rfl) X (by rfl) (by rfl) guard43 heq ?_; clear heq)
      exact HKR.out _ _ (by kernel_rfl) hkn HF.out
    · have hki : ¬ ((k : Nat) : Int) < (n : Nat) := by omega
      have HE : k = n := by omega
      subst HE
      obtain ⟨own1, σ, M, tb, hL⟩ := hI.out
      have HL := hid_of hL
      clear hQ h0 hs hI hL
      unfold fr3m
      go_wp2_with fail
      exact q_of (Q := fun a => Q (.exit 0) a wr) (F := fr3m rg mb a k c k) (fun u => HQ.out u wr own1 σ M tb HL.out) _ (by kernel_rfl)
set_option maxRecDepth 100000 in
set_option maxHeartbeats 4000000 in
theorem law3_any (a : Option Addr) (n c : Nat) (s : Nat → OpD) (w : World) (hs : Scr w a n s) (hG : Glb own0 w) :
    Calls Tryd.prog 3 #[.slice a n c] w fun e w' => e = .returned (.bool true) ∧ Below w.heap.size w w' := by
  by_cases hn : n ≤ 65536
  · have HS := hid_of hs
    have HG := hid_of hG
    clear hs hG
    go_enter Tryd.func3, Tryd.ntmps3
    go_wp2_with (go_at_call 11; refine (small_yes _ _ _ hn _).mono ?_; rintro e w' ⟨rfl, hw'⟩; obtain rfl := hw'.symm)
    refine (newRig_any own0 w).mono ?_
    rintro e w1 ⟨rfl, own1, xb, pbs, hr, hx⟩
    have HR := hid_of hr
    have HX := hid_of hx
    have HG1 := hid_of (HG.out.ext hx (fun q => q))
    clear hr hx HG
    go_wp2_with fail
    refine (mnew_any own1 w1).mono ?_
    rintro e w2 ⟨rfl, own2, hm, hx2⟩
    have hL0 : ∃ own' σ M tb, L3 w w.heap.size xb pbs w1.heap.size 0 own' σ M tb w2 := ⟨own2, ss0, _, _, HR.out.ext hx2 (fun _ _ q => q), hm, HG1.out.ext hx2 (fun q => q), ss0_inv, Clean.zero, (HX.out.mono (fun _ q => q.elim)).trans (hx2.mono (fun _ q => q.elim))⟩
    have HL0 := hid_of hL0
    clear hm hx2 hL0 HR HX HG1
    go_wp2_with fail
    refine q_of (Q := fun a => (Code.loop _).wp Tryd.prog _ a _) (F := fr3m w.heap.size w1.heap.size a n c 0) (fun u => lp3m a n c s hn HS.out HL0.out u _ ?_ _ (by kernel_rfl)) _ (by kernel_rfl)
    intro u3 w3 own3 σ M tb hL
    have hlk : ∀ k, k < 6 → ∃ a cap av, LinkOK w3 w1.heap.size k (pbs k) (σ.p k) a cap av := fun k hk => hL.link (by omega) hk
    have HRG := hid_of (links_range hL.rr.blk)
    have HLK := hid_of hlk
    have HBE := hid_of (below_of_ext hL.ext)
    clear hL hlk HL0 HS
    unfold fr3m
    go_upto_region 10 with fail
    refine wp_region_list ?_
    go_wp2_with ((with_reducible show wpList _ _ _ ({ dst := _, op := Op.load 47 _, type := _, pos := _, after := _, guard := _ } :: _) _ _); refine wpList_load_mid rfl 47 (.tmp 35) rfl w.heap.size 1 rfl (links6 pbs).toList _ HRG.out (by rfl) (by rfl) (by rfl) ?_; rw [Array.toArray_toList])
    unfold links6
    refine q_of (Q := fun a => (Code.loop _).wp Tryd.prog _ a _) (F := fr3s w.heap.size w1.heap.size (.agg #[.pointer (some ⟨pbs 0, 0, none⟩), .pointer (some ⟨pbs 1, 0, none⟩), .pointer (some ⟨pbs 2, 0, none⟩), .pointer (some ⟨pbs 3, 0, none⟩), .pointer (some ⟨pbs 4, 0, none⟩), .pointer (some ⟨pbs 5, 0, none⟩)]) 0) (fun u => lp3s _ σ.p pbs (index_pagg pbs) HLK.out (Below.refl _ _) u _ ?_ _ (by kernel_rfl)) _ (by kernel_rfl)
    intro u4 w4 hB4
    have HB4 : Hid (Below w.heap.size w w4) := HBE.out.trans (hB4.mono HBE.out.size)
    clear hB4 HBE HLK HRG
    unfold fr3s
    go_wp2_with fail
    go_ret
    exact ⟨rfl, HB4.out⟩
  · clear hs hG
    go_enter Tryd.func3, Tryd.ntmps3
    go_wp2_with (go_at_call 11; refine (small_no _ _ _ (by omega) _).mono ?_; rintro e w' ⟨rfl, hw'⟩; obtain rfl := hw'.symm)
    go_ret
    exact ⟨rfl, Below.refl _ _⟩
end Go.Proofs.Qxb6500750aDoor
