import Derived.Test.Qxb6500750aDoorMlr
namespace Go.Proofs.Qxb6500750aDoor
open Go.RowKit
attribute [local go_sem] put_size put_cell_same put_cell_ne put_frozen_same put_frozen_ne put_setCell_same put_setCell_ne put_drew
attribute [local go_sem] drewN_setCell drewN_alloc drewN_put
/-! ### The law's second half: attempts, requests, words -/
def actsN (q : PS) (j : Nat) : List LReq := ((q.atts.take j).filter (·.acted)).map (·.r)
theorem actsN_full (q : PS) : actsN q q.atts.length = acts q := by unfold actsN acts; rw [List.take_length]
theorem actsN_succ (q : PS) (j : Nat) (x : Att) (h : q.atts[j]? = some x) : actsN q (j + 1) = if x.acted = true then actsN q j ++ [x.r] else actsN q j := by
  unfold actsN
  rw [List.take_add_one, h]
  simp only [Option.toList]
  rw [List.filter_append, List.map_append]
  by_cases hx : x.acted = true
  · rw [if_pos hx]
    simp [hx]
  · rw [if_neg hx]
    simp [hx]
theorem actsN_le (q : PS) (j : Nat) : (actsN q j).length ≤ q.atts.length := by
  unfold actsN
  rw [List.length_map]
  exact Nat.le_trans (List.length_filter_le _ _) (by rw [List.length_take]; omega)
def atV (x : Att) : Array Value := #[.int .u8 x.r.id, .bool x.r.w, .int .u32 x.r.ad, .int .u32 x.r.da, .int .u8 x.p.o, .int .u32 x.p.l, .bool x.acted]
theorem arow_get (zs : List Att) : ∀ (j : Nat) (x : Att), zs[j]? = some x → ∀ i, i < 7 → (zs.flatMap attRow)[j * 7 + i]? = (atV x)[i]? := by
  induction zs with
  | nil => intro j r h; simp at h
  | cons y zs ih =>
    intro j x h i hi
    rw [List.flatMap_cons]
    cases j with
    | zero =>
      simp at h
      subst h
      rw [List.getElem?_append_left (by simp [attRow]; omega)]
      obtain rfl | rfl | rfl | rfl | rfl | rfl | rfl : i = 0 ∨ i = 1 ∨ i = 2 ∨ i = 3 ∨ i = 4 ∨ i = 5 ∨ i = 6 := by omega
      all_goals rfl
    | succ j =>
      rw [List.getElem?_append_right (by simp [attRow]; omega)]
      have := ih j x (by simpa using h) i hi
      rw [show (j + 1) * 7 + i - (attRow y).length = j * 7 + i by simp [attRow]; omega]
      exact this
theorem arow_len (zs : List Att) : (zs.flatMap attRow).length = zs.length * 7 := by
  induction zs with
  | nil => rfl
  | cons x rs ih => rw [List.flatMap_cons, List.length_append, ih]; simp [attRow]; omega
theorem Sl.att {w : World} {v : Value} {n : Nat} {zs : List Att} (h : Sl w v 59 7 n (zs.flatMap attRow)) {b off cap : Nat} (hv : v = .slice (some ⟨b, off, none⟩) n cap) {j : Nat} {x : Att} (hr : zs[j]? = some x) :
    ∀ i, i < 7 → w.cell? ⟨b, off + j * 7 + i, none⟩ = (atV x)[i]? := by
  have hj : j < zs.length := by
    rcases Nat.lt_or_ge j zs.length with h9 | h9
    · exact h9
    · rw [List.getElem?_eq_none h9] at hr; cases hr
  have hl := arow_len zs
  intro i hi
  have := (h.cell hv (j * 7 + i) (by rw [hl]; omega)).trans (arow_get zs j x hr i hi)
  rw [← Nat.add_assoc] at this
  exact this
def fr3s (rg mb : Nat) (lv : Value) (k : Nat) (u : Nat → Value) : Act :=
  { tmps := ((u 0) :: (u 1) :: (u 2) :: (.pointer (some ⟨rg, 0, none⟩)) :: (.pointer (some ⟨mb, 0, none⟩)) :: (u 5) :: (u 6) :: (u 7) :: (u 8) :: (u 9) :: (u 10) :: (u 11) :: (u 12) :: (u 13) :: (u 14) :: (u 15) :: (u 16) :: (u 17) :: (u 18) :: (u 19) :: (u 20) :: (u 21) :: (u 22) :: (u 23) :: (u 24) :: (u 25) :: (u 26) :: (u 27) :: (u 28) :: (u 29) :: (u 30) :: (u 31) :: (u 32) :: (u 33) :: (u 34) :: (u 35) :: lv :: (.int .i64 (k : Nat)) :: (u 38) :: (u 39) :: (u 40) :: (u 41) :: (u 42) :: (u 43) :: (u 44) :: (u 45) :: (u 46) :: (u 47) :: (u 48) :: (u 49) :: (u 50) :: (u 51) :: (u 52) :: (u 53) :: (u 54) :: (u 55) :: (u 56) :: (u 57) :: (u 58) :: (u 59) :: (u 60) :: (u 61) :: (u 62) :: (u 63) :: (u 64) :: (u 65) :: (u 66) :: (u 67) :: (u 68) :: (u 69) :: (u 70) :: (u 71) :: (u 72) :: (u 73) :: (u 74) :: (u 75) :: (u 76) :: (u 77) :: (u 78) :: (u 79) :: [] : List Value).toArray, defers := [] }
def fr3e (rg mb : Nat) (lv : Value) (k pb : Nat) (v : Value) (u : Nat → Value) : Act :=
  { tmps := ((u 0) :: (u 1) :: (u 2) :: (.pointer (some ⟨rg, 0, none⟩)) :: (.pointer (some ⟨mb, 0, none⟩)) :: (u 5) :: (u 6) :: (.int .i64 (k : Nat)) :: (.pointer (some ⟨pb, 0, none⟩)) :: v :: (u 10) :: (u 11) :: (u 12) :: (u 13) :: (u 14) :: (u 15) :: (u 16) :: (u 17) :: (u 18) :: (u 19) :: (u 20) :: (u 21) :: (u 22) :: (u 23) :: (u 24) :: (u 25) :: (u 26) :: (u 27) :: (u 28) :: (u 29) :: (u 30) :: (u 31) :: (u 32) :: (u 33) :: (u 34) :: (u 35) :: lv :: (.int .i64 (k : Nat)) :: (u 38) :: (u 39) :: (u 40) :: (u 41) :: (u 42) :: (u 43) :: (u 44) :: (u 45) :: (u 46) :: (u 47) :: (u 48) :: (u 49) :: (u 50) :: (u 51) :: (u 52) :: (u 53) :: (u 54) :: (u 55) :: (u 56) :: (u 57) :: (u 58) :: (u 59) :: (u 60) :: (u 61) :: (u 62) :: (u 63) :: (u 64) :: (u 65) :: (u 66) :: (u 67) :: (u 68) :: (u 69) :: (u 70) :: (u 71) :: (u 72) :: (u 73) :: (u 74) :: (u 75) :: (u 76) :: (u 77) :: (u 78) :: (u 79) :: [] : List Value).toArray, defers := [] }
def fr3a (rg mb : Nat) (lv : Value) (k pb : Nat) (v : Value) (a : Option Addr) (L cap j : Nat) (u : Nat → Value) : Act :=
  { tmps := ((u 0) :: (u 1) :: (u 2) :: (.pointer (some ⟨rg, 0, none⟩)) :: (.pointer (some ⟨mb, 0, none⟩)) :: (u 5) :: (u 6) :: (.int .i64 (k : Nat)) :: (.pointer (some ⟨pb, 0, none⟩)) :: v :: (u 10) :: (u 11) :: (u 12) :: (u 13) :: (u 14) :: (u 15) :: (u 16) :: (u 17) :: (u 18) :: (u 19) :: (u 20) :: (u 21) :: (u 22) :: (u 23) :: (u 24) :: (u 25) :: (u 26) :: (u 27) :: (u 28) :: (u 29) :: (u 30) :: (u 31) :: (u 32) :: (u 33) :: (u 34) :: (u 35) :: lv :: (.int .i64 (k : Nat)) :: (u 38) :: (u 39) :: (u 40) :: (u 41) :: (.slice a L cap) :: (.int .i64 (L : Nat)) :: (.int .i64 (j : Nat)) :: (u 45) :: (u 46) :: (u 47) :: (u 48) :: (u 49) :: (u 50) :: (u 51) :: (u 52) :: (u 53) :: (u 54) :: (u 55) :: (u 56) :: (u 57) :: (u 58) :: (u 59) :: (u 60) :: (u 61) :: (u 62) :: (u 63) :: (u 64) :: (u 65) :: (u 66) :: (u 67) :: (u 68) :: (u 69) :: (u 70) :: (u 71) :: (u 72) :: (u 73) :: (u 74) :: (u 75) :: (u 76) :: (u 77) :: (u 78) :: (u 79) :: [] : List Value).toArray, defers := [] }
def fr3w (rg mb : Nat) (lv : Value) (k pb : Nat) (v : Value) (n j : Nat) (u : Nat → Value) : Act :=
  { tmps := ((u 0) :: (u 1) :: (u 2) :: (.pointer (some ⟨rg, 0, none⟩)) :: (.pointer (some ⟨mb, 0, none⟩)) :: (u 5) :: (u 6) :: (.int .i64 (k : Nat)) :: (.pointer (some ⟨pb, 0, none⟩)) :: v :: (u 10) :: (u 11) :: (u 12) :: (u 13) :: (u 14) :: (u 15) :: (u 16) :: (u 17) :: (u 18) :: (u 19) :: (u 20) :: (u 21) :: (u 22) :: (u 23) :: (u 24) :: (u 25) :: (u 26) :: (u 27) :: (u 28) :: (u 29) :: (u 30) :: (u 31) :: (u 32) :: (u 33) :: (u 34) :: (u 35) :: lv :: (.int .i64 (k : Nat)) :: (u 38) :: (u 39) :: (u 40) :: (u 41) :: (u 42) :: (u 43) :: (u 44) :: (u 45) :: (u 46) :: (u 47) :: (u 48) :: (u 49) :: (u 50) :: (u 51) :: (u 52) :: (u 53) :: (u 54) :: (u 55) :: (u 56) :: (u 57) :: (u 58) :: (u 59) :: (u 60) :: (u 61) :: v :: (.int .i64 (n : Nat)) :: (.int .i64 (j : Nat)) :: (u 65) :: (u 66) :: (u 67) :: (u 68) :: (u 69) :: (u 70) :: (u 71) :: (u 72) :: (u 73) :: (u 74) :: (u 75) :: (u 76) :: (u 77) :: (u 78) :: (u 79) :: [] : List Value).toArray, defers := [] }

/-- What the loop over the attempts keeps. -/
def A3 (W : World) (q : PS) (j : Nat) (v : Value) (wr : World) : Prop := Below W.heap.size W wr ∧ Sl wr v 54 4 (actsN q j).length ((actsN q j).flatMap lreqRow) ∧ ∀ k, v.ownBlock = some k → W.heap.size ≤ k
set_option maxRecDepth 100000 in
set_option maxHeartbeats 4000000 in
theorem lp3a {W w : World} {rg mb k pb : Nat} (lv : Value) (q : PS) (a : Option Addr) (L cap : Nat) (hL : q.atts.length = L) (hA : Sl W (.slice a L cap) 59 7 L (q.atts.flatMap attRow)) (hL9 : L < 1000000000) (h0 : A3 W q 0 (.slice none 0 0) w) (u0 : Nat → Value) (Q : Exit → Act → World → Prop)
    (hQ : ∀ u v wr, A3 W q L v wr → Q (.exit 4) (fr3e rg mb lv k pb v u) wr) (body : Code) (hbody : body = (loopsOf (((Tryd.f3.body.map loopsOf).getD []).getD 1 .skip)).getD 0 .skip) :
    (Code.loop body).wp Tryd.prog Q (fr3a rg mb lv k pb (.slice none 0 0) a L cap 0 u0) w := by
  subst hbody
  conv => arg 2; arg 1; whnf
  refine wp_loop (fun act wr => ∃ (u : Nat → Value) (j : Nat) (v : Value), act = fr3a rg mb lv k pb v a L cap j u ∧ j ≤ L ∧ Hid (A3 W q j v wr)) (fun act _ => L - (intOf (act.tmps.getD 44 undef)).toNat) ?start ?round
  case start => exact ⟨u0, 0, _, rfl, by omega, h0⟩
  case round =>
    rintro a0 wr ⟨u, j, v, rfl, hj, hI⟩
    obtain ⟨KR, hKR⟩ : ∃ KR : Act → World → Prop, KR = fun a' w' => ((fun act wr => ∃ (u : Nat → Value) (j : Nat) (v : Value), act = fr3a rg mb lv k pb v a L cap j u ∧ j ≤ L ∧ Hid (A3 W q j v wr)) a' w' ∧ L - (intOf (a'.tmps.getD 44 undef)).toNat < L - (intOf ((fr3a rg mb lv k pb v a L cap j u).tmps.getD 44 undef)).toNat) := ⟨_, rfl⟩
    have HKR : Hid (∀ (act : Act) (v' : Value) (w' : World), act = fr3a rg mb lv k pb v' a L cap (j + 1) (fun i => act.tmps.getD i undef) → j < L → A3 W q (j + 1) v' w' → KR act w') := fun act v' w' e hjl hl => by
      rw [hKR]
      refine ⟨⟨_, j + 1, v', e, hjl, hl⟩, ?_⟩
      have e1 : act.tmps.getD 44 undef = .int .i64 ((j + 1 : Nat) : Int) := by rw [e]; rfl
      have e2 : (fr3a rg mb lv k pb v a L cap j u).tmps.getD 44 undef = .int .i64 ((j : Nat) : Int) := rfl
      simp only [e1, e2, intOf]
      omega
    rw [← hKR]
    clear hKR
    have HQ := hid_of hQ
    have hadd : IntKind.i64.wrap (((j : Nat) : Int) + 1) = (j : Nat) + 1 := by simp [IntKind.wrap, IntKind.bits, IntKind.signed]; omega
    by_cases hjL : j < L
    · have hji : ((j : Nat) : Int) < (L : Nat) := by omega
      obtain ⟨b, off, cap', e1, _, hbl⟩ := hA.form (by omega)
      injection e1 with e1 _ e3
      subst e1; subst e3
      obtain ⟨x, hx⟩ : ∃ x, q.atts[j]? = some x := ⟨_, List.getElem?_eq_getElem (by rw [hL]; exact hjL)⟩
      have hcl := hA.att rfl hx
      obtain ⟨hBel, hSl, hown⟩ := hI.out
      have hcc : ∀ i, i < 7 → wr.cell? ⟨b, off + j * 7 + i, none⟩ = (atV x)[i]? := fun i hi => by
        rw [← hcl i hi]
        exact hBel.cell hbl
      have z0 : wr.cell? ⟨b, off + j * 7, none⟩ = some (.int .u8 x.r.id) := hcc 0 (by omega)
      have z1 : wr.cell? ⟨b, off + j * 7 + 1, none⟩ = some (.bool x.r.w) := hcc 1 (by omega)
      have z2 : wr.cell? ⟨b, off + j * 7 + 2, none⟩ = some (.int .u32 x.r.ad) := hcc 2 (by omega)
      have z3 : wr.cell? ⟨b, off + j * 7 + 3, none⟩ = some (.int .u32 x.r.da) := hcc 3 (by omega)
      have z4 : wr.cell? ⟨b, off + j * 7 + 4, none⟩ = some (.int .u8 x.p.o) := hcc 4 (by omega)
      have z5 : wr.cell? ⟨b, off + j * 7 + 5, none⟩ = some (.int .u32 x.p.l) := hcc 5 (by omega)
      have z6 : wr.cell? ⟨b, off + j * 7 + 6, none⟩ = some (.bool x.acted) := hcc 6 (by omega)
      have hsu := actsN_succ q j x hx
      have hle := actsN_le q j
      rw [hL] at hle
      have HSU := hid_of hsu
      have HBel := hid_of hBel
      have HSl := hid_of hSl
      have HOw := hid_of hown
      clear hQ h0 hI hA hcl hcc hBel hSl hown hsu hx
      cases hac : x.acted
      · rw [hac] at z6
        have HF : Hid (A3 W q (j + 1) v (wr.alloc (.cells #[.int .u8 x.r.id, .bool x.r.w, .int .u32 x.r.ad, .int .u32 x.r.da, .int .u8 x.p.o, .int .u32 x.p.l, .bool false] 59))) := by
          refine ⟨HBel.out.alloc HBel.out.size _, ?_, HOw.out⟩
          rw [HSU.out, if_neg (by rw [hac]; exact Bool.noConfusion)]
          exact HSl.out.same fun k hk => Below.heap_alloc _ _ k (HSl.out.lt k hk)
        clear HSU HBel HSl HOw
        unfold fr3a
        go_wp2_with fail
        exact HKR.out _ _ _ (by kernel_rfl) hjL HF.out
      · rw [hac] at z6
        obtain ⟨N, hN⟩ : ∃ N, (actsN q j).length = N := ⟨_, rfl⟩
        rw [hN] at HSl hle
        obtain ⟨ad, cp, hv⟩ := HSl.out.form'
        subst hv
        obtain ⟨i0, hi0, hz0, hz1, hz2⟩ := info_parts Tryd.info54
        obtain ⟨W1, hW1⟩ : ∃ W1, wr.alloc (.cells #[.int .u8 x.r.id, .bool x.r.w, .int .u32 x.r.ad, .int .u32 x.r.da, .int .u8 x.p.o, .int .u32 x.p.l, .bool true] 59) = W1 := ⟨_, rfl⟩
        have hb1 : Blk W1 wr.heap.size #[.int .u8 x.r.id, .bool x.r.w, .int .u32 x.r.ad, .int .u32 x.r.da, .int .u8 x.p.o, .int .u32 x.p.l, .bool true] 59 := by rw [← hW1]; exact Blk.new _ _ _
        have hBel1 : Below W.heap.size W W1 := by rw [← hW1]; exact HBel.out.alloc HBel.out.size _
        have hSl1 : Sl W1 (.slice ad N cp) 54 4 N ((actsN q j).flatMap lreqRow) := by rw [← hW1]; exact HSl.out.same fun k hk => Below.heap_alloc _ _ k (HSl.out.lt k hk)
        have y0 : W1.cell? ⟨wr.heap.size, 0, none⟩ = some (.int .u8 x.r.id) := hb1.cell 0
        have y1 : W1.cell? ⟨wr.heap.size, 1, none⟩ = some (.bool x.r.w) := hb1.cell 1
        have y2 : W1.cell? ⟨wr.heap.size, 2, none⟩ = some (.int .u32 x.r.ad) := hb1.cell 2
        have y3 : W1.cell? ⟨wr.heap.size, 3, none⟩ = some (.int .u32 x.r.da) := hb1.cell 3
        have y6 : W1.cell? ⟨wr.heap.size, 6, none⟩ = some (.bool true) := hb1.cell 6
        have HB1 := hid_of hBel1
        have HS1 := hid_of hSl1
        have HNN := hid_of hN
        have hg1 : W.heap.size ≤ W1.heap.size := hBel1.size
        clear HBel HSl hb1 hBel1 hSl1 hN
        unfold fr3a
        go_upto_region 17 with fail
        clear hW1 z0 z1 z2 z3 z4 z5 z6
        refine wp_region_list ?_
        go_wp2_with (at_builtin; (refine wpList_append_sl _ rfl (.tmp 50) (.tmp 53) 50 rfl 54 i0 (.agg #[.int .u8 0, .bool false, .int .u32 0, .int .u32 0]) 4 12 (by rfl) hi0 hz0 hz1 hz2 rfl (by decide) _ _ _ rfl (HS1.out.same ?d0) ⟨W1.heap.size, 0, none⟩ 1 1 [.int .u8 x.r.id, .bool x.r.w, .int .u32 x.r.ad, .int .u32 x.r.da] rfl rfl ?d1 ?d2 ?d3 ?d4 ?_))
        case d0 =>
          intro k hk
          exact Below.heap_alloc W1 _ k (HS1.out.lt k hk)
        case d2 => exact ⟨rfl, rfl, rfl, rfl⟩
        case d3 => unfold maxLen; omega
        case d4 => omega
        intro v' w2 hsl hgr hnew
        have HF : Hid (A3 W q (j + 1) v' w2) := by
          refine ⟨⟨hgr.os.trans HB1.out.os, hgr.tape.trans HB1.out.tape, hgr.output.trans HB1.out.output, ?_, fun k hk => ?_⟩, ?_, fun k hk => ?_⟩
          · have h9 : (W1.alloc (.cells #[.int .u8 x.r.id, .bool x.r.w, .int .u32 x.r.ad, .int .u32 x.r.da] 54)).heap.size ≤ w2.heap.size := hgr.size
            simp at h9; omega
          · have h9 := hgr.block k (by show k < (W1.alloc _).heap.size; simp; omega) (fun e => by have := HOw.out k e.symm; omega)
            rw [h9]
            exact (Below.heap_alloc W1 _ k (by omega)).trans (HB1.out.block k hk)
          · rw [HSU.out, if_pos hac, List.length_append, HNN.out, List.flatMap_append]
            have e9 : List.flatMap lreqRow [x.r] = [.int .u8 x.r.id, .bool x.r.w, .int .u32 x.r.ad, .int .u32 x.r.da] := by simp [lreqRow]
            rw [e9]
            exact hsl
          · rcases hnew k hk with h9 | h9
            · exact HOw.out k h9
            · omega
        clear hsl hgr hnew HB1 HS1 HOw HSU HNN hi0 hz0 hz1 hz2 y0 y1 y2 y3 y6
        go_wp2_with fail
        exact HKR.out _ _ _ (by kernel_rfl) hjL HF.out
    · have hji : ¬ ((j : Nat) : Int) < (L : Nat) := by omega
      have HE : j = L := by omega
      subst HE
      clear hQ h0 hA
      unfold fr3a
      go_wp2_with fail
      exact q_of (Q := fun a => Q (.exit 4) a wr) (F := fr3e rg mb lv k pb v) (fun u => HQ.out u v wr hI.out) _ (by kernel_rfl)
end Go.Proofs.Qxb6500750aDoor
