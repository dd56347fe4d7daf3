import Derived.Test.Qxb6500749aRok
namespace Go.Proofs.Qxb6500749a
open Go.RowKit
attribute [local go_sem] put_size put_cell_same put_cell_ne put_frozen_same put_frozen_ne put_setCell_same put_setCell_ne put_drew
attribute [local go_sem] drewN_setCell drewN_alloc drewN_put
/-! ### The scene's end: the masters are made -/
def smark (own : Nat → Nat) (B c1 b1 p c2 b2 d : Nat) (v : Value) : Nat → Nat := fun k => if k < B then own k else if k = c1 then 1 else if k = b1 then 0 else if k = p then 11 else if k = c2 then 14 else if k = b2 then 13 else if k = d then 12 else if v.ownBlock = some k then 10 else 50
theorem RR.start {own : Nat → Nat} {w w2 : World} {L : LY} {R : RG} (h : RR own w L R) (fs : List FD) (pb bbP cbP db bbD cbD : Nat) (fv : Value)
    (f : Fr (· = L.rg) w w2) (hg : Blk w2 L.rg (rigV { L with pb := pb, bbP := bbP, cbP := cbP, db := db, bbD := bbD, cbD := cbD, fv := fv } { R with run := true, BP := bd0 fs, last := rep0, DM := dd0, BM := bd0 fs }) 38)
    (h1 : Blk w2 pb (pairV bbP L.ubP L.pv rep0) 93) (h2 : BR w2 bbP cbP fv (bd0 fs)) (h3 : Blk w2 db (dmaV bbD L.ubD dd0) 97) (h4 : BR w2 bbD cbD fv (bd0 fs))
    (lc1 : w.heap.size ≤ cbP) (lc : cbP < bbP ∧ bbP < pb ∧ pb < cbD ∧ cbD < bbD ∧ bbD < db) (lf : ∀ k, fv.ownBlock = some k → w.heap.size ≤ k) :
    RR (smark own w.heap.size cbP bbP pb cbD bbD db fv) w2 { L with pb := pb, bbP := bbP, cbP := cbP, db := db, bbD := bbD, cbD := cbD, fv := fv } { R with run := true, BP := bd0 fs, last := rep0, DM := dd0, BM := bd0 fs } ∧ Ext own (smark own w.heap.size cbP bbP pb cbD bbD db fv) (fun k => k ≤ 18) w w2 := by
  obtain ⟨q1, q2, q3, q4, q5⟩ := lc
  have x : Ext own (smark own w.heap.size cbP bbP pb cbD bbD db fv) (fun k => k = 6) w w2 := f.ext (fun k _ e => by rw [e]; exact h.rg.2) (fun k hk => if_pos hk)
  have m1 : smark own w.heap.size cbP bbP pb cbD bbD db fv cbP = 1 := by unfold smark; rw [if_neg (by omega), if_pos rfl]
  have m2 : smark own w.heap.size cbP bbP pb cbD bbD db fv bbP = 0 := by unfold smark; rw [if_neg (by omega), if_neg (by omega), if_pos rfl]
  have m3 : smark own w.heap.size cbP bbP pb cbD bbD db fv pb = 11 := by unfold smark; rw [if_neg (by omega), if_neg (by omega), if_neg (by omega), if_pos rfl]
  have m4 : smark own w.heap.size cbP bbP pb cbD bbD db fv cbD = 14 := by unfold smark; rw [if_neg (by omega), if_neg (by omega), if_neg (by omega), if_neg (by omega), if_pos rfl]
  have m5 : smark own w.heap.size cbP bbP pb cbD bbD db fv bbD = 13 := by unfold smark; rw [if_neg (by omega), if_neg (by omega), if_neg (by omega), if_neg (by omega), if_neg (by omega), if_pos rfl]
  have m6 : smark own w.heap.size cbP bbP pb cbD bbD db fv db = 12 := by unfold smark; rw [if_neg (by omega), if_neg (by omega), if_neg (by omega), if_neg (by omega), if_neg (by omega), if_neg (by omega), if_pos rfl]
  have mf : ∀ k, fv.ownBlock = some k → smark own w.heap.size cbP bbP pb cbD bbD db fv k = 10 := fun k hk => by
    have n0 := lf k hk
    have n1 : k ≠ cbP := h2.cel.sl_ne (by decide) h2.sl k hk
    have n2 : k ≠ bbP := h2.blk.sl_ne (by decide) h2.sl k hk
    have n3 : k ≠ pb := h1.sl_ne (by decide) h2.sl k hk
    have n4 : k ≠ cbD := h4.cel.sl_ne (by decide) h4.sl k hk
    have n5 : k ≠ bbD := h4.blk.sl_ne (by decide) h4.sl k hk
    have n6 : k ≠ db := h3.sl_ne (by decide) h4.sl k hk
    unfold smark
    rw [if_neg (by omega), if_neg n1, if_neg n2, if_neg n3, if_neg n4, if_neg n5, if_neg n6, if_pos hk]
  exact ⟨⟨⟨hg, (x.keep _ h.rg.1.lt).trans h.rg.2⟩, h.prog.ext x (by decide), h.img.ext x (by decide), h.reps.ext x (by decide), h.uP.ext x (by decide) (by decide) (by decide) (by decide), h.uD.ext x (by decide) (by decide) (by decide) (by decide),
    fun _ => ⟨h1, m3⟩, fun _ => ⟨h2, m2, m1, mf⟩, fun _ => ⟨h3, m6⟩, fun _ => ⟨h4, m5, m4, mf⟩⟩, x.mono (fun k hk => by omega)⟩
theorem RR.startD {own : Nat → Nat} {w w' : World} {L : LY} {R : RG} (h : RR own w L R) (hr : R.run = true) {D : DD} {B : BD} (hp : Blk w' L.db (dmaV L.bbD L.ubD D) 97) (hb : BR w' L.bbD L.cbD L.fv B) (f : Fr (fun k => k = L.db ∨ k = L.cbD) w w') :
    RR own w' L { R with BM := B, DM := D } ∧ Ext own own (fun k => k ≤ 18) w w' := by
  have x : Ext own own (fun k => k = 12 ∨ k = 14) w w' := f.ext (fun k _ e => by
    rcases e with e | e
    · rw [e]; exact .inl (h.dma hr).2
    · rw [e]; exact .inr (h.bD hr).o2) (fun _ _ => rfl)
  exact ⟨⟨h.rg.ext x (by decide), h.prog.ext x (by decide), h.img.ext x (by decide), h.reps.ext x (by decide), h.uP.ext x (by decide) (by decide) (by decide) (by decide), h.uD.ext x (by decide) (by decide) (by decide) (by decide),
    fun q => (h.pair q).ext x (by decide), fun q => (h.bP q).ext x (by decide) (by decide) (by decide), fun _ => ⟨hp, (h.dma hr).2⟩, fun _ => ⟨hb, (h.bD hr).o1, (h.bD hr).o2, (h.bD hr).o3⟩⟩, x.mono (fun k hk => by omega)⟩
theorem info51 : (Try.prog.info? 51).map (fun i => (i.zero, i.size, i.bytes)) = some (some (.agg #[.int .u32 0, .int .u32 0, .int .u32 0, .int .u32 0, .int .u32 0, .int .u32 0, .int .u32 0, .int .u32 0, .int .u32 0, .bool false, .bool false, .bool false, .bool false]), 13, 40) := by kernel_rfl
theorem info33 : (Try.prog.info? 33).map (fun i => (i.zero, i.size, i.bytes)) = some (some (.agg #[.int .u32 0, .int .u32 0, .int .u32 0, .int .u32 0, .int .u8 0]), 5, 20) := by kernel_rfl
/-- A fault appended to the list under way. -/
structure FL (w w1 : World) (fv : Value) (fs : List FD) : Prop where
  be : Below w.heap.size w w1
  sl : Sl w1 fv 33 5 fs.length (fs.flatMap frow)
  lo : ∀ k, fv.ownBlock = some k → w.heap.size ≤ k
def fr27 (rg : Nat) (u : Nat → Value) : Act :=
  { tmps := ((.pointer (some ⟨rg, 0, none⟩)) :: (u 1) :: (u 2) :: (u 3) :: (u 4) :: (u 5) :: (u 6) :: (u 7) :: (u 8) :: (u 9) :: (u 10) :: (u 11) :: (u 12) :: (u 13) :: (u 14) :: (u 15) :: (u 16) :: (u 17) :: (u 18) :: (u 19) :: (u 20) :: (u 21) :: (u 22) :: (u 23) :: (u 24) :: (u 25) :: (u 26) :: (u 27) :: (u 28) :: (u 29) :: (u 30) :: (u 31) :: (u 32) :: (u 33) :: (u 34) :: (u 35) :: (u 36) :: (u 37) :: (u 38) :: (u 39) :: (u 40) :: (u 41) :: (u 42) :: (u 43) :: (u 44) :: (u 45) :: (u 46) :: (u 47) :: (u 48) :: (u 49) :: (u 50) :: (u 51) :: (u 52) :: (u 53) :: (u 54) :: (u 55) :: (u 56) :: (u 57) :: (u 58) :: (u 59) :: (u 60) :: (u 61) :: (u 62) :: (u 63) :: (u 64) :: (u 65) :: (u 66) :: (u 67) :: (u 68) :: (u 69) :: (u 70) :: (u 71) :: (u 72) :: (u 73) :: (u 74) :: (u 75) :: (u 76) :: (u 77) :: (u 78) :: (u 79) :: (u 80) :: (u 81) :: (u 82) :: (u 83) :: (u 84) :: (u 85) :: (u 86) :: (u 87) :: (u 88) :: (u 89) :: (u 90) :: (u 91) :: (u 92) :: (u 93) :: (u 94) :: (u 95) :: [] : List Value).toArray, defers := [] }
def fr27f (rg : Nat) (fv : Value) (u : Nat → Value) : Act :=
  { tmps := ((.pointer (some ⟨rg, 0, none⟩)) :: (u 1) :: fv :: (u 3) :: (u 4) :: (u 5) :: (u 6) :: (u 7) :: (u 8) :: (u 9) :: (u 10) :: (u 11) :: (u 12) :: (u 13) :: (u 14) :: (u 15) :: (u 16) :: (u 17) :: (u 18) :: (u 19) :: (u 20) :: (u 21) :: (u 22) :: (u 23) :: (u 24) :: (u 25) :: (u 26) :: (u 27) :: (u 28) :: (u 29) :: (u 30) :: (u 31) :: (u 32) :: (u 33) :: (u 34) :: (u 35) :: (u 36) :: (u 37) :: (u 38) :: (u 39) :: (u 40) :: (u 41) :: (u 42) :: (u 43) :: (u 44) :: (u 45) :: (u 46) :: (u 47) :: (u 48) :: (u 49) :: (u 50) :: (u 51) :: (u 52) :: (u 53) :: (u 54) :: (u 55) :: (u 56) :: (u 57) :: (u 58) :: (u 59) :: (u 60) :: (u 61) :: (u 62) :: (u 63) :: (u 64) :: (u 65) :: (u 66) :: (u 67) :: (u 68) :: (u 69) :: (u 70) :: (u 71) :: (u 72) :: (u 73) :: (u 74) :: (u 75) :: (u 76) :: (u 77) :: (u 78) :: (u 79) :: (u 80) :: (u 81) :: (u 82) :: (u 83) :: (u 84) :: (u 85) :: (u 86) :: (u 87) :: (u 88) :: (u 89) :: (u 90) :: (u 91) :: (u 92) :: (u 93) :: (u 94) :: (u 95) :: [] : List Value).toArray, defers := [] }
def fr27gfc (rg : Nat) (fv : Value) (g : Bool) (u : Nat → Value) : Act :=
  { tmps := ((.pointer (some ⟨rg, 0, none⟩)) :: (u 1) :: fv :: (u 3) :: (u 4) :: (u 5) :: (u 6) :: (u 7) :: (u 8) :: (u 9) :: (u 10) :: (u 11) :: (u 12) :: (u 13) :: (u 14) :: (u 15) :: (u 16) :: (.bool g) :: (u 18) :: (u 19) :: (u 20) :: (u 21) :: (u 22) :: (u 23) :: (u 24) :: (u 25) :: (u 26) :: (u 27) :: (u 28) :: (u 29) :: (u 30) :: (u 31) :: (u 32) :: (u 33) :: (u 34) :: (u 35) :: (u 36) :: (u 37) :: (u 38) :: (u 39) :: (u 40) :: (u 41) :: (u 42) :: (u 43) :: (u 44) :: (u 45) :: (u 46) :: (u 47) :: (u 48) :: (u 49) :: (u 50) :: (u 51) :: (u 52) :: (u 53) :: (u 54) :: (u 55) :: (u 56) :: (u 57) :: (u 58) :: (u 59) :: (u 60) :: (u 61) :: (u 62) :: (u 63) :: (u 64) :: (u 65) :: (u 66) :: (u 67) :: (u 68) :: (u 69) :: (u 70) :: (u 71) :: (u 72) :: (u 73) :: (u 74) :: (u 75) :: (u 76) :: (u 77) :: (u 78) :: (u 79) :: (u 80) :: (u 81) :: (u 82) :: (u 83) :: (u 84) :: (u 85) :: (u 86) :: (u 87) :: (u 88) :: (u 89) :: (u 90) :: (u 91) :: (u 92) :: (u 93) :: (u 94) :: (u 95) :: [] : List Value).toArray, defers := [] }
def fr27gfo (rg : Nat) (fv : Value) (g : Bool) (u : Nat → Value) : Act :=
  { tmps := ((.pointer (some ⟨rg, 0, none⟩)) :: (u 1) :: fv :: (u 3) :: (u 4) :: (u 5) :: (u 6) :: (u 7) :: (u 8) :: (u 9) :: (u 10) :: (u 11) :: (u 12) :: (u 13) :: (u 14) :: (u 15) :: (u 16) :: (u 17) :: (u 18) :: (u 19) :: (u 20) :: (u 21) :: (u 22) :: (u 23) :: (u 24) :: (u 25) :: (u 26) :: (u 27) :: (u 28) :: (u 29) :: (u 30) :: (u 31) :: (u 32) :: (u 33) :: (.bool g) :: (u 35) :: (u 36) :: (u 37) :: (u 38) :: (u 39) :: (u 40) :: (u 41) :: (u 42) :: (u 43) :: (u 44) :: (u 45) :: (u 46) :: (u 47) :: (u 48) :: (u 49) :: (u 50) :: (u 51) :: (u 52) :: (u 53) :: (u 54) :: (u 55) :: (u 56) :: (u 57) :: (u 58) :: (u 59) :: (u 60) :: (u 61) :: (u 62) :: (u 63) :: (u 64) :: (u 65) :: (u 66) :: (u 67) :: (u 68) :: (u 69) :: (u 70) :: (u 71) :: (u 72) :: (u 73) :: (u 74) :: (u 75) :: (u 76) :: (u 77) :: (u 78) :: (u 79) :: (u 80) :: (u 81) :: (u 82) :: (u 83) :: (u 84) :: (u 85) :: (u 86) :: (u 87) :: (u 88) :: (u 89) :: (u 90) :: (u 91) :: (u 92) :: (u 93) :: (u 94) :: (u 95) :: [] : List Value).toArray, defers := [] }
def fr27h (rg : Nat) (g : Bool) (u : Nat → Value) : Act :=
  { tmps := ((.pointer (some ⟨rg, 0, none⟩)) :: (u 1) :: (u 2) :: (u 3) :: (u 4) :: (u 5) :: (u 6) :: (.bool g) :: (u 8) :: (u 9) :: (u 10) :: (u 11) :: (u 12) :: (u 13) :: (u 14) :: (u 15) :: (u 16) :: (u 17) :: (u 18) :: (u 19) :: (u 20) :: (u 21) :: (u 22) :: (u 23) :: (u 24) :: (u 25) :: (u 26) :: (u 27) :: (u 28) :: (u 29) :: (u 30) :: (u 31) :: (u 32) :: (u 33) :: (u 34) :: (u 35) :: (u 36) :: (u 37) :: (u 38) :: (u 39) :: (u 40) :: (u 41) :: (u 42) :: (u 43) :: (u 44) :: (u 45) :: (u 46) :: (u 47) :: (u 48) :: (u 49) :: (u 50) :: (u 51) :: (u 52) :: (u 53) :: (u 54) :: (u 55) :: (u 56) :: (u 57) :: (u 58) :: (u 59) :: (u 60) :: (u 61) :: (u 62) :: (u 63) :: (u 64) :: (u 65) :: (u 66) :: (u 67) :: (u 68) :: (u 69) :: (u 70) :: (u 71) :: (u 72) :: (u 73) :: (u 74) :: (u 75) :: (u 76) :: (u 77) :: (u 78) :: (u 79) :: (u 80) :: (u 81) :: (u 82) :: (u 83) :: (u 84) :: (u 85) :: (u 86) :: (u 87) :: (u 88) :: (u 89) :: (u 90) :: (u 91) :: (u 92) :: (u 93) :: (u 94) :: (u 95) :: [] : List Value).toArray, defers := [] }
set_option maxRecDepth 100000 in
set_option maxHeartbeats 16000000 in
theorem rcycle_any (own : Nat → Nat) (L : LY) (R : RG) (hR : ROk R) (hN : R.reps.length < 2000000000) (w : World) (h : RR own w L R) :
    Calls Try.prog 27 #[.pointer (some ⟨L.rg, 0, none⟩)] w fun e w' => e = .returned (.tuple #[]) ∧ ∃ own' L', RR own' w' L' (cycR R) ∧ Ext own own' (fun k => k ≤ 18) w w' ∧ L'.rg = L.rg := by
  have H := hid_of h
  have HOK := hid_of hR
  have HN := hid_of hN
  have c20 : w.cell? ⟨L.rg, 20, none⟩ = some (ptr R.run L.pb) := h.rg.1.cell 20
  obtain ⟨Q, hQ⟩ : ∃ Q, (if R.run = true then R else strR R) = Q := ⟨_, rfl⟩
  have HCY : Hid (cycR R = cy2 (cy1 Q)) := by unfold Hid; rw [← hQ]; rfl
  rw [HCY.out]
  have HQ0 := hid_of hQ
  clear h hR hN HCY hQ
  unfold ptr at c20
  obtain ⟨r0, hr0⟩ : ∃ r0, R.run = r0 := ⟨_, rfl⟩
  rw [hr0] at c20
  have HR0 := hid_of hr0
  clear hr0
  go_enter Try.func27, Try.ntmps27
  go_upto_region 0 with fail
  refine cutM (Km := fun act wc => ∃ u, act = fr27h L.rg (!r0) u ∧ wc = w) ?rest1 ?first1
  case first1 =>
    obtain ⟨KR, hKR⟩ : ∃ KR : Act → World → Prop, KR = fun act wc => ∃ u, act = fr27h L.rg (!r0) u ∧ wc = w := ⟨_, rfl⟩
    have HKR : Hid (∀ act : Act, act = fr27h L.rg (!r0) (fun i => act.tmps.getD i undef) → KR act w) := fun act e => by rw [hKR]; exact ⟨_, e, rfl⟩
    rw [← hKR]
    clear hKR
    cases r0
    · have c20' : w.cell? ⟨L.rg, 20, none⟩ = some (.pointer none) := c20
      clear c20
      go_wp2_with fail
      exact HKR.out _ (by kernel_rfl)
    · have c20' : w.cell? ⟨L.rg, 20, none⟩ = some (.pointer (some ⟨L.pb, 0, none⟩)) := c20
      clear c20
      go_wp2_with fail
      exact HKR.out _ (by kernel_rfl)
  case rest1 =>
  rintro act wd ⟨u, rfl, hwd⟩
  obtain rfl := hwd.symm
  clear hwd c20
  unfold fr27h
  go_upto_if 7 with fail
  refine cutM (Km := fun act wc => ∃ u own' L', act = fr27 L.rg u ∧ Hid (RR own' wc L' Q ∧ Ext own own' (fun k => k ≤ 18) w wc ∧ L'.rg = L.rg)) ?rest2 ?first2
  case first2 =>
    obtain ⟨KF, hKF⟩ : ∃ KF : Act → World → Prop, KF = fun act wc => ∃ u own' L', act = fr27 L.rg u ∧ Hid (RR own' wc L' Q ∧ Ext own own' (fun k => k ≤ 18) w wc ∧ L'.rg = L.rg) := ⟨_, rfl⟩
    have HKF : Hid (∀ (act : Act) (wc : World) (own' : Nat → Nat) (L' : LY), act = fr27 L.rg (fun i => act.tmps.getD i undef) → RR own' wc L' Q → Ext own own' (fun k => k ≤ 18) w wc → L'.rg = L.rg → KF act wc) := fun act wc own' L' e h1 h2 h3 => by rw [hKF]; exact ⟨_, own', L', e, h1, h2, h3⟩
    rw [← hKF]
    clear hKF
    cases r0
    case true =>
      have HX : Hid (RR own w L Q) := by rw [← HQ0.out, HR0.out, if_pos rfl]; exact H.out
      go_wp2_with fail
      exact HKF.out _ _ _ _ (by kernel_rfl) HX.out (Ext.refl _ _ _) rfl
    case false =>
    go_upto_region 1 with fail
    refine cutM (Km := fun act wd => ∃ u fa fn fc, act = fr27f L.rg (.slice fa fn fc) u ∧ Hid (FL w wd (.slice fa fn fc) ([] : List FD))) ?rest3 ?first3
    case first3 =>
      have HL : Hid (FL w w (.slice none 0 0) []) := ⟨Below.refl _ _, Sl.nil _ _ _, fun k hk => by cases hk⟩
      obtain ⟨KR, hKR⟩ : ∃ KR : Act → World → Prop, KR = fun act wd => ∃ u fa fn fc, act = fr27f L.rg (.slice fa fn fc) u ∧ Hid (FL w wd (.slice fa fn fc) ([] : List FD)) := ⟨_, rfl⟩
      have HKR : Hid (∀ act : Act, act = fr27f L.rg (.slice none 0 0) (fun i => act.tmps.getD i undef) → KR act w) := fun act e => by rw [hKR]; exact ⟨_, none, 0, 0, e, HL⟩
      rw [← hKR]
      clear hKR
      go_wp2_with fail
      exact HKR.out _ (by kernel_rfl)
    case rest3 =>
    rintro act wc ⟨u, fa, fn, fc, rfl, HL⟩
    unfold fr27f
    go_upto_region 2 with fail
    have hbg : Blk wc L.rg (rigV L R) 38 := (HL.out.be.block _ H.out.rg.1.lt).trans H.out.rg.1
    have d4 : wc.cell? ⟨L.rg, 4, none⟩ = some (.bool R.hc) := hbg.cell 4
    have d16 : wc.cell? ⟨L.rg, 16, none⟩ = some (.bool R.kc) := hbg.cell 16
    have HBG := hid_of hbg
    clear hbg
    refine cutM (Km := fun act wd => ∃ (u : Nat → Value), act = fr27gfc L.rg (.slice fa fn fc) (R.hc && R.kc) u ∧ wd = wc) ?rest4 ?first4
    case first4 =>
      obtain ⟨KR, hKR⟩ : ∃ KR : Act → World → Prop, KR = fun act wd => ∃ (u : Nat → Value), act = fr27gfc L.rg (.slice fa fn fc) (R.hc && R.kc) u ∧ wd = wc := ⟨_, rfl⟩
      have HKR : Hid (∀ act : Act, act = fr27gfc L.rg (.slice fa fn fc) (R.hc && R.kc) (fun i => act.tmps.getD i undef) → KR act wc) := fun act e => by rw [hKR]; exact ⟨_, e, rfl⟩
      rw [← hKR]
      clear hKR HL HBG
      cases h1 : R.hc
      · rw [h1] at d4 HKR
        go_wp2_with fail
        exact HKR.out _ (by kernel_rfl)
      · rw [h1] at d4 HKR
        go_wp2_with fail
        exact HKR.out _ (by kernel_rfl)
    case rest4 =>
    rintro act wd ⟨u, rfl, hwd⟩
    obtain rfl := hwd.symm
    clear hwd
    unfold fr27gfc
    go_upto_if 17 with fail
    refine cutM (Km := fun act wd => ∃ u fa fn fc, act = fr27f L.rg (.slice fa fn fc) u ∧ Hid (FL w wd (.slice fa fn fc) (fsC R))) ?rest5 ?first5
    case first5 =>
      obtain ⟨KR, hKR⟩ : ∃ KR : Act → World → Prop, KR = fun act wd => ∃ u fa fn fc, act = fr27f L.rg (.slice fa fn fc) u ∧ Hid (FL w wd (.slice fa fn fc) (fsC R)) := ⟨_, rfl⟩
      have HKR : Hid (∀ (act : Act) (wd : World) (fa : Option Addr) (fn fc : Nat), act = fr27f L.rg (.slice fa fn fc) (fun i => act.tmps.getD i undef) → FL w wd (.slice fa fn fc) (fsC R) → KR act wd) := fun act wd fa fn fc e h => by rw [hKR]; exact ⟨_, fa, fn, fc, e, h⟩
      rw [← hKR]
      clear hKR
      cases h1 : (R.hc && R.kc)
      · have HX : Hid (FL w wc (.slice fa fn fc) (fsC R)) := by
          have e1 : fsC R = [] := by unfold fsC; rw [h1]; rfl
          unfold Hid; rw [e1]; exact HL.out
        clear HL HBG d4 d16
        go_wp2_with fail
        exact HKR.out _ _ _ _ _ (by kernel_rfl) HX.out
      · obtain ⟨i0, hinf, hz0, hz1, hz2⟩ := info_parts info33
        have hfn : ([] : List FD).length = fn := by
          have h9 := HL.out.sl
          rcases h9.2 with ⟨e1, e2⟩ | ⟨b, off, cap, cs, e1, _⟩
          · cases e1; exact e2
          · injection e1 with _ e2 _; exact e2.symm
        have hfn2 : fn ≤ 1 := by rw [← hfn]; simp
        have hsl : Sl wc (.slice fa fn fc) 33 5 fn (([] : List FD).flatMap frow) := by have h9 := HL.out.sl; rw [hfn] at h9; exact h9
        have HSW : Hid (Sl (wc.alloc (.cells [.int .u32 R.fc.site, .int .u32 ((R.fc.bit : Nat) : Int), .int .u32 R.fc.cyc, .int .u32 R.fc.dur, .int .u8 R.fc.kind].toArray 33)) (.slice fa fn fc) 33 5 fn (([] : List FD).flatMap frow)) := hsl.same fun k hk => Below.heap_alloc _ _ k (hsl.lt k hk)
        have f0 : wc.cell? ⟨L.rg, 6, none⟩ = some (.int .u32 R.fc.site) := HBG.out.cell 6
        have f1 : wc.cell? ⟨L.rg, 7, none⟩ = some (.int .u32 (R.fc.bit : Nat)) := HBG.out.cell 7
        have f2 : wc.cell? ⟨L.rg, 8, none⟩ = some (.int .u32 R.fc.cyc) := HBG.out.cell 8
        have f3 : wc.cell? ⟨L.rg, 9, none⟩ = some (.int .u32 R.fc.dur) := HBG.out.cell 9
        have f4 : wc.cell? ⟨L.rg, 10, none⟩ = some (.int .u8 R.fc.kind) := HBG.out.cell 10
        have HFS : Hid ((fsC R) = ([] : List FD) ++ [R.fc]) := by
          have e1 : fsC R = [R.fc] := by unfold fsC; rw [h1]; rfl
          unfold Hid ; rw [e1]; rfl
        have HFN := hid_of hfn
        clear hsl hfn d4 d16
        go_upto_region 3 with fail
        refine wp_region_list ?_
        go_wp2_with (at_builtin; (refine wpList_append_sl _ rfl (.tmp 18) (.tmp 23) 101 rfl 33 i0 (.agg #[.int .u32 0, .int .u32 0, .int .u32 0, .int .u32 0, .int .u8 0]) 5 20 Try.underlying101 hinf hz0 hz1 hz2 rfl (by decide) _ _ _ rfl HSW.out ⟨wc.heap.size, 0, none⟩ 1 1 [.int .u32 R.fc.site, .int .u32 ((R.fc.bit : Nat) : Int), .int .u32 R.fc.cyc, .int .u32 R.fc.dur, .int .u8 R.fc.kind] rfl rfl ?d1 ?d2 ?d3 ?d4 ?_))
        try (case d1 => exact cells_new _ _ _ _ rfl)
        try (case d2 => intro v hv; simp at hv; rcases hv with rfl | rfl | rfl | rfl | rfl <;> rfl)
        try (case d3 => unfold maxLen; omega)
        try (case d4 => omega)
        intro v' w3 hsl3 hgr hnew
        obtain ⟨a3, c3, hv3⟩ := hsl3.form'
        subst hv3
        have HX : Hid (FL w w3 (.slice a3 (fn + 1) c3) (fsC R)) := by
          rw [HFS.out]
          refine ⟨?_, ?_, fun k hk => ?_⟩
          · refine ⟨hgr.os.trans HL.out.be.os, hgr.tape.trans HL.out.be.tape, hgr.output.trans HL.out.be.output, Nat.le_trans HL.out.be.size (Nat.le_trans (by rw [size_alloc']; exact Nat.le_succ _) hgr.size), fun k hk => ?_⟩
            rw [hgr.block k (by rw [size_alloc']; have := HL.out.be.size; omega) (fun e => by have := HL.out.lo k e.symm; omega), Below.heap_alloc _ _ k (by have := HL.out.be.size; omega)]
            exact HL.out.be.block k hk
          · rw [List.length_append, List.length_singleton, HFN.out, List.flatMap_append]
            exact hsl3
          · rcases hnew k hk with q | q
            · exact HL.out.lo k q
            · have := HL.out.be.size
              have q2 : wc.heap.size + 1 ≤ k := Nat.le_trans (by first | (rw [size_alloc']; exact Nat.le_refl _) | exact Nat.le_refl _) q
              omega
        clear HL HBG HSW hsl3 hgr hnew hinf hz0 hz1 hz2 f0 f1 f2 f3 f4
        go_wp2_with fail
        exact HKR.out _ _ _ _ _ (by kernel_rfl) HX.out
    case rest5 =>
    clear HL HBG wc d4 d16
    rintro act wc ⟨u, fa, fn, fc, rfl, HL⟩
    unfold fr27f
    go_upto_region 4 with fail
    have hbg : Blk wc L.rg (rigV L R) 38 := (HL.out.be.block _ H.out.rg.1.lt).trans H.out.rg.1
    have d4 : wc.cell? ⟨L.rg, 5, none⟩ = some (.bool R.ho) := hbg.cell 5
    have d16 : wc.cell? ⟨L.rg, 17, none⟩ = some (.bool R.ko) := hbg.cell 17
    have HBG := hid_of hbg
    clear hbg
    refine cutM (Km := fun act wd => ∃ (u : Nat → Value), act = fr27gfo L.rg (.slice fa fn fc) (R.ho && R.ko) u ∧ wd = wc) ?rest6 ?first6
    case first6 =>
      obtain ⟨KR, hKR⟩ : ∃ KR : Act → World → Prop, KR = fun act wd => ∃ (u : Nat → Value), act = fr27gfo L.rg (.slice fa fn fc) (R.ho && R.ko) u ∧ wd = wc := ⟨_, rfl⟩
      have HKR : Hid (∀ act : Act, act = fr27gfo L.rg (.slice fa fn fc) (R.ho && R.ko) (fun i => act.tmps.getD i undef) → KR act wc) := fun act e => by rw [hKR]; exact ⟨_, e, rfl⟩
      rw [← hKR]
      clear hKR HL HBG
      cases h1 : R.ho
      · rw [h1] at d4 HKR
        go_wp2_with fail
        exact HKR.out _ (by kernel_rfl)
      · rw [h1] at d4 HKR
        go_wp2_with fail
        exact HKR.out _ (by kernel_rfl)
    case rest6 =>
    rintro act wd ⟨u, rfl, hwd⟩
    obtain rfl := hwd.symm
    clear hwd
    unfold fr27gfo
    go_upto_if 34 with fail
    refine cutM (Km := fun act wd => ∃ u fa fn fc, act = fr27f L.rg (.slice fa fn fc) u ∧ Hid (FL w wd (.slice fa fn fc) (fsR R))) ?rest7 ?first7
    case first7 =>
      obtain ⟨KR, hKR⟩ : ∃ KR : Act → World → Prop, KR = fun act wd => ∃ u fa fn fc, act = fr27f L.rg (.slice fa fn fc) u ∧ Hid (FL w wd (.slice fa fn fc) (fsR R)) := ⟨_, rfl⟩
      have HKR : Hid (∀ (act : Act) (wd : World) (fa : Option Addr) (fn fc : Nat), act = fr27f L.rg (.slice fa fn fc) (fun i => act.tmps.getD i undef) → FL w wd (.slice fa fn fc) (fsR R) → KR act wd) := fun act wd fa fn fc e h => by rw [hKR]; exact ⟨_, fa, fn, fc, e, h⟩
      rw [← hKR]
      clear hKR
      cases h1 : (R.ho && R.ko)
      · have HX : Hid (FL w wc (.slice fa fn fc) (fsR R)) := by
          have e1 : fsO R = [] := by unfold fsO; rw [h1]; rfl
          unfold Hid fsR; rw [e1, List.append_nil]; exact HL.out
        clear HL HBG d4 d16
        go_wp2_with fail
        exact HKR.out _ _ _ _ _ (by kernel_rfl) HX.out
      · obtain ⟨i0, hinf, hz0, hz1, hz2⟩ := info_parts info33
        have hfn : (fsC R).length = fn := by
          have h9 := HL.out.sl
          rcases h9.2 with ⟨e1, e2⟩ | ⟨b, off, cap, cs, e1, _⟩
          · cases e1; exact e2
          · injection e1 with _ e2 _; exact e2.symm
        have hfn2 : fn ≤ 1 := by rw [← hfn]; unfold fsC; split <;> simp
        have hsl : Sl wc (.slice fa fn fc) 33 5 fn ((fsC R).flatMap frow) := by have h9 := HL.out.sl; rw [hfn] at h9; exact h9
        have HSW : Hid (Sl (wc.alloc (.cells [.int .u32 R.fo.site, .int .u32 ((R.fo.bit : Nat) : Int), .int .u32 R.fo.cyc, .int .u32 R.fo.dur, .int .u8 R.fo.kind].toArray 33)) (.slice fa fn fc) 33 5 fn ((fsC R).flatMap frow)) := hsl.same fun k hk => Below.heap_alloc _ _ k (hsl.lt k hk)
        have f0 : wc.cell? ⟨L.rg, 11, none⟩ = some (.int .u32 R.fo.site) := HBG.out.cell 11
        have f1 : wc.cell? ⟨L.rg, 12, none⟩ = some (.int .u32 (R.fo.bit : Nat)) := HBG.out.cell 12
        have f2 : wc.cell? ⟨L.rg, 13, none⟩ = some (.int .u32 R.fo.cyc) := HBG.out.cell 13
        have f3 : wc.cell? ⟨L.rg, 14, none⟩ = some (.int .u32 R.fo.dur) := HBG.out.cell 14
        have f4 : wc.cell? ⟨L.rg, 15, none⟩ = some (.int .u8 R.fo.kind) := HBG.out.cell 15
        have HFS : Hid ((fsR R) = (fsC R) ++ [R.fo]) := by
          have e1 : fsO R = [R.fo] := by unfold fsO; rw [h1]; rfl
          unfold Hid fsR; rw [e1]
        have HFN := hid_of hfn
        clear hsl hfn d4 d16
        go_upto_region 5 with fail
        refine wp_region_list ?_
        go_wp2_with (at_builtin; (refine wpList_append_sl _ rfl (.tmp 35) (.tmp 40) 101 rfl 33 i0 (.agg #[.int .u32 0, .int .u32 0, .int .u32 0, .int .u32 0, .int .u8 0]) 5 20 Try.underlying101 hinf hz0 hz1 hz2 rfl (by decide) _ _ _ rfl HSW.out ⟨wc.heap.size, 0, none⟩ 1 1 [.int .u32 R.fo.site, .int .u32 ((R.fo.bit : Nat) : Int), .int .u32 R.fo.cyc, .int .u32 R.fo.dur, .int .u8 R.fo.kind] rfl rfl ?d1 ?d2 ?d3 ?d4 ?_))
        try (case d1 => exact cells_new _ _ _ _ rfl)
        try (case d2 => intro v hv; simp at hv; rcases hv with rfl | rfl | rfl | rfl | rfl <;> rfl)
        try (case d3 => unfold maxLen; omega)
        try (case d4 => omega)
        intro v' w3 hsl3 hgr hnew
        obtain ⟨a3, c3, hv3⟩ := hsl3.form'
        subst hv3
        have HX : Hid (FL w w3 (.slice a3 (fn + 1) c3) (fsR R)) := by
          rw [HFS.out]
          refine ⟨?_, ?_, fun k hk => ?_⟩
          · refine ⟨hgr.os.trans HL.out.be.os, hgr.tape.trans HL.out.be.tape, hgr.output.trans HL.out.be.output, Nat.le_trans HL.out.be.size (Nat.le_trans (by rw [size_alloc']; exact Nat.le_succ _) hgr.size), fun k hk => ?_⟩
            rw [hgr.block k (by rw [size_alloc']; have := HL.out.be.size; omega) (fun e => by have := HL.out.lo k e.symm; omega), Below.heap_alloc _ _ k (by have := HL.out.be.size; omega)]
            exact HL.out.be.block k hk
          · rw [List.length_append, List.length_singleton, HFN.out, List.flatMap_append]
            exact hsl3
          · rcases hnew k hk with q | q
            · exact HL.out.lo k q
            · have := HL.out.be.size
              have q2 : wc.heap.size + 1 ≤ k := Nat.le_trans (by first | (rw [size_alloc']; exact Nat.le_refl _) | exact Nat.le_refl _) q
              omega
        clear HL HBG HSW hsl3 hgr hnew hinf hz0 hz1 hz2 f0 f1 f2 f3 f4
        go_wp2_with fail
        exact HKR.out _ _ _ _ _ (by kernel_rfl) HX.out
    case rest7 =>
    clear HL HBG wc d4 d16
    rintro act wc ⟨u, fa, fn, fc, rfl, HL⟩
    unfold fr27f
    have hfn : (fsR R).length = fn := by
      have h9 := HL.out.sl
      rcases h9.2 with ⟨e1, e2⟩ | ⟨b, off, cap, cs, e1, _⟩
      · cases e1; exact e2
      · injection e1 with _ e2 _; exact e2.symm
    obtain ⟨pa, pc, hpv⟩ := H.out.prog.1.form'
    obtain ⟨pn, hpn⟩ : ∃ pn, R.prog.length = pn := ⟨_, rfl⟩
    rw [hpn] at hpv
    have HPV := hid_of hpv
    have HNW : Hid (Calls Try.prog 47 #[.slice pa pn pc, .pointer (some ⟨L.ubP, 0, none⟩), .slice fa fn fc] wc.drew fun e w' => e = .returned (.pointer (some ⟨wc.heap.size + 1 + 1, 0, none⟩)) ∧ w' = ((wc.drew.alloc (.cells (encK fun _ => 0) 30)).alloc (.cells (bV wc.heap.size (.slice fa fn fc) 0) 125)).alloc (.cells (pairV (wc.heap.size + 1) L.ubP (.slice pa pn pc) rep0) 93)) := pnew_any pa pn pc L.ubP fa fn fc wc.drew
    have HBG : Hid (Blk wc.drew L.rg (rigV L R) 38) := (HL.out.be.block _ H.out.rg.1.lt).trans H.out.rg.1
    have HJ : Hid (wc.drew.cell? ⟨L.rg, 0, none⟩ = some (.slice pa pn pc) ∧ wc.drew.cell? ⟨L.rg, 2, none⟩ = some (.pointer (some ⟨L.ubP, 0, none⟩))) := ⟨by have := HBG.out.cell 0; rw [← hpv]; exact this, HBG.out.cell 2⟩
    clear hpn hpv hfn
    go_upto_region 6 with fail
    refine wp_region_float [0, 1, 2, 3, 4, 5, 6, 7, 8, 9] [10, 11, 12, 13] [0, 1, 2, 3, 5, 6, 7, 9] mixed (fun ω => ω.cell? ⟨L.rg, 0, none⟩ = some (.slice pa pn pc) ∧ ω.cell? ⟨L.rg, 2, none⟩ = some (.pointer (some ⟨L.ubP, 0, none⟩))) (by kernel_rfl) rfl (by kernel_rfl) HJ.out ?_
    iterate 10 refine wpFl_op _ _ _ _ rfl rfl (fun ω hj => by
      first
      | (go_simp; rfl)
      | (have j1 := (hj rfl).1
         have j2 := (hj rfl).2
         go_simp; rfl)) ?_
    refine wpFl_nil _ _ ?_
    simp only [Act.put, List.setIfInBounds_toArray]
    refine wpCh_rest _ _ _ _ [_, _, _, _] _ _ rfl (by kernel_rfl) ?_
    simp only [List.getElem_toArray, List.getElem_cons_succ, List.getElem_cons_zero]
    go_wp2_with fail
    refine HNW.out.mono ?_
    rintro e w6 ⟨rfl, hw6⟩
    have hsz6 : w6.heap.size = wc.heap.size + 1 + 1 + 1 := by rw [hw6, size_alloc', size_alloc', size_alloc']; rfl
    have hbe6 : Below wc.heap.size wc w6 := by
      rw [hw6]
      have k : Below wc.drew.heap.size wc.drew (((wc.drew.alloc (.cells (encK fun _ => 0) 30)).alloc (.cells (bV wc.heap.size (.slice fa fn fc) 0) 125)).alloc (.cells (pairV (wc.heap.size + 1) L.ubP (.slice pa pn pc) rep0) 93)) := (((Below.refl _ _).alloc (Nat.le_refl _) _).alloc (by simp) _).alloc (by simp; omega) _
      exact ⟨k.os, k.tape, k.output, k.size, k.block⟩
    have hbr6 : BR w6 (wc.heap.size + 1) wc.heap.size (.slice fa fn fc) (bd0 (fsR R)) := by
      rw [hw6]
      have k := br_new wc.drew (.slice fa fn fc) (fsR R) HL.out.sl (fsR_ok HOK.out).1 (fsR_ok HOK.out).2
      exact k.below ((Below.refl _ _).alloc (Nat.le_refl _) _)
    have hpb6 : Blk w6 (wc.heap.size + 1 + 1) (pairV (wc.heap.size + 1) L.ubP L.pv rep0) 93 := by
      rw [hw6, HPV.out]
      have k := Blk.new ((wc.drew.alloc (.cells (encK fun _ => 0) 30)).alloc (.cells (bV wc.heap.size (.slice fa fn fc) 0) 125)) (pairV (wc.heap.size + 1) L.ubP (.slice pa pn pc) rep0) 93
      rw [size_alloc', size_alloc'] at k
      exact k
    have hrl : L.rg < wc.heap.size := HBG.out.lt
    have hbg6 : Blk w6 L.rg (rigV L R) 38 := (hbe6.block _ hrl).trans HBG.out
    have hbw6 : Below w.heap.size w w6 := HL.out.be.trans (hbe6.mono HL.out.be.size)
    obtain ⟨u6, hu6, hl6⟩ := hbg6.out
    have HF6 : Hid (Fr (· = L.rg) w (put u6 L.rg #[L.pv, .map (some L.img), .pointer (some ⟨L.ubP, 0, none⟩), .pointer (some ⟨L.ubD, 0, none⟩), .bool R.hc, .bool R.ho, .int .u32 R.fc.site, .int .u32 (R.fc.bit : Nat), .int .u32 R.fc.cyc, .int .u32 R.fc.dur, .int .u8 R.fc.kind, .int .u32 R.fo.site, .int .u32 (R.fo.bit : Nat), .int .u32 R.fo.cyc, .int .u32 R.fo.dur, .int .u8 R.fo.kind, .bool R.kc, .bool R.ko, .bool R.hd, .int .u32 R.desc, .pointer (some ⟨wc.heap.size + 1 + 1, 0, none⟩), .pointer none, L.rv] 38)) := by
      have k := (Fr.of_below (K := (· = L.rg)) hbw6).put (b := L.rg) (fun _ => rfl) #[L.pv, .map (some L.img), .pointer (some ⟨L.ubP, 0, none⟩), .pointer (some ⟨L.ubD, 0, none⟩), .bool R.hc, .bool R.ho, .int .u32 R.fc.site, .int .u32 (R.fc.bit : Nat), .int .u32 R.fc.cyc, .int .u32 R.fc.dur, .int .u8 R.fc.kind, .int .u32 R.fo.site, .int .u32 (R.fo.bit : Nat), .int .u32 R.fo.cyc, .int .u32 R.fo.dur, .int .u8 R.fo.kind, .bool R.kc, .bool R.ko, .bool R.hd, .int .u32 R.desc, .pointer (some ⟨wc.heap.size + 1 + 1, 0, none⟩), .pointer none, L.rv] 38
      rw [hu6, put_put] at k
      exact k
    have HB6 : Hid (BR (put u6 L.rg #[L.pv, .map (some L.img), .pointer (some ⟨L.ubP, 0, none⟩), .pointer (some ⟨L.ubD, 0, none⟩), .bool R.hc, .bool R.ho, .int .u32 R.fc.site, .int .u32 (R.fc.bit : Nat), .int .u32 R.fc.cyc, .int .u32 R.fc.dur, .int .u8 R.fc.kind, .int .u32 R.fo.site, .int .u32 (R.fo.bit : Nat), .int .u32 R.fo.cyc, .int .u32 R.fo.dur, .int .u8 R.fo.kind, .bool R.kc, .bool R.ko, .bool R.hd, .int .u32 R.desc, .pointer (some ⟨wc.heap.size + 1 + 1, 0, none⟩), .pointer none, L.rv] 38) (wc.heap.size + 1) wc.heap.size (.slice fa fn fc) (bd0 (fsR R)) ∧ Blk (put u6 L.rg #[L.pv, .map (some L.img), .pointer (some ⟨L.ubP, 0, none⟩), .pointer (some ⟨L.ubD, 0, none⟩), .bool R.hc, .bool R.ho, .int .u32 R.fc.site, .int .u32 (R.fc.bit : Nat), .int .u32 R.fc.cyc, .int .u32 R.fc.dur, .int .u8 R.fc.kind, .int .u32 R.fo.site, .int .u32 (R.fo.bit : Nat), .int .u32 R.fo.cyc, .int .u32 R.fo.dur, .int .u8 R.fo.kind, .bool R.kc, .bool R.ko, .bool R.hd, .int .u32 R.desc, .pointer (some ⟨wc.heap.size + 1 + 1, 0, none⟩), .pointer none, L.rv] 38) (wc.heap.size + 1 + 1) (pairV (wc.heap.size + 1) L.ubP L.pv rep0) 93 ∧ (put u6 L.rg #[L.pv, .map (some L.img), .pointer (some ⟨L.ubP, 0, none⟩), .pointer (some ⟨L.ubD, 0, none⟩), .bool R.hc, .bool R.ho, .int .u32 R.fc.site, .int .u32 (R.fc.bit : Nat), .int .u32 R.fc.cyc, .int .u32 R.fc.dur, .int .u8 R.fc.kind, .int .u32 R.fo.site, .int .u32 (R.fo.bit : Nat), .int .u32 R.fo.cyc, .int .u32 R.fo.dur, .int .u8 R.fo.kind, .bool R.kc, .bool R.ko, .bool R.hd, .int .u32 R.desc, .pointer (some ⟨wc.heap.size + 1 + 1, 0, none⟩), .pointer none, L.rv] 38).heap.size = wc.heap.size + 1 + 1 + 1) := by
      have k1 : BR (put w6 L.rg #[L.pv, .map (some L.img), .pointer (some ⟨L.ubP, 0, none⟩), .pointer (some ⟨L.ubD, 0, none⟩), .bool R.hc, .bool R.ho, .int .u32 R.fc.site, .int .u32 (R.fc.bit : Nat), .int .u32 R.fc.cyc, .int .u32 R.fc.dur, .int .u8 R.fc.kind, .int .u32 R.fo.site, .int .u32 (R.fo.bit : Nat), .int .u32 R.fo.cyc, .int .u32 R.fo.dur, .int .u8 R.fo.kind, .bool R.kc, .bool R.ko, .bool R.hd, .int .u32 R.desc, .pointer (some ⟨wc.heap.size + 1 + 1, 0, none⟩), .pointer none, L.rv] 38) (wc.heap.size + 1) wc.heap.size (.slice fa fn fc) (bd0 (fsR R)) :=
        ⟨hbr6.blk.put_ne (by omega), hbr6.cel.put_ne (by omega), hbr6.sl.same fun k hk => put_heap_ne _ _ _ _ _ (hbg6.sl_ne (by decide) hbr6.sl k hk), hbr6.ok, hbr6.len, hbr6.now⟩
      have k2 := hpb6.put_ne (b := L.rg) (cs := #[L.pv, .map (some L.img), .pointer (some ⟨L.ubP, 0, none⟩), .pointer (some ⟨L.ubD, 0, none⟩), .bool R.hc, .bool R.ho, .int .u32 R.fc.site, .int .u32 (R.fc.bit : Nat), .int .u32 R.fc.cyc, .int .u32 R.fc.dur, .int .u8 R.fc.kind, .int .u32 R.fo.site, .int .u32 (R.fo.bit : Nat), .int .u32 R.fo.cyc, .int .u32 R.fo.dur, .int .u8 R.fo.kind, .bool R.kc, .bool R.ko, .bool R.hd, .int .u32 R.desc, .pointer (some ⟨wc.heap.size + 1 + 1, 0, none⟩), .pointer none, L.rv]) (T := 38) (by omega)
      have k3 : (put w6 L.rg #[L.pv, .map (some L.img), .pointer (some ⟨L.ubP, 0, none⟩), .pointer (some ⟨L.ubD, 0, none⟩), .bool R.hc, .bool R.ho, .int .u32 R.fc.site, .int .u32 (R.fc.bit : Nat), .int .u32 R.fc.cyc, .int .u32 R.fc.dur, .int .u8 R.fc.kind, .int .u32 R.fo.site, .int .u32 (R.fo.bit : Nat), .int .u32 R.fo.cyc, .int .u32 R.fo.dur, .int .u8 R.fo.kind, .bool R.kc, .bool R.ko, .bool R.hd, .int .u32 R.desc, .pointer (some ⟨wc.heap.size + 1 + 1, 0, none⟩), .pointer none, L.rv] 38).heap.size = wc.heap.size + 1 + 1 + 1 := by rw [put_size]; exact hsz6
      rw [hu6, put_put] at k1 k2 k3
      exact ⟨k1, k2, k3⟩
    have hu6' : w6 = put u6 L.rg #[L.pv, .map (some L.img), .pointer (some ⟨L.ubP, 0, none⟩), .pointer (some ⟨L.ubD, 0, none⟩), .bool R.hc, .bool R.ho, .int .u32 R.fc.site, .int .u32 (R.fc.bit : Nat), .int .u32 R.fc.cyc, .int .u32 R.fc.dur, .int .u8 R.fc.kind, .int .u32 R.fo.site, .int .u32 (R.fo.bit : Nat), .int .u32 R.fo.cyc, .int .u32 R.fo.dur, .int .u8 R.fo.kind, .bool R.kc, .bool R.ko, .bool R.hd, .int .u32 R.desc, .pointer none, .pointer none, L.rv] 38 := by
      rw [hu6]
      unfold rigV
      rw [HR0.out]
      rfl
    have HLO := hid_of HL.out.lo
    have HSZ : Hid (w.heap.size ≤ wc.heap.size ∧ L.rg < wc.heap.size) := ⟨HL.out.be.size, hrl⟩
    clear HNW hw6 hsz6 hbe6 hbr6 hpb6 hrl hbg6 hbw6 HL HBG HJ hu6
    subst hu6'
    go_upto_region 7 with fail
    obtain ⟨w7, hw7⟩ : ∃ w7, put u6 L.rg #[L.pv, .map (some L.img), .pointer (some ⟨L.ubP, 0, none⟩), .pointer (some ⟨L.ubD, 0, none⟩), .bool R.hc, .bool R.ho, .int .u32 R.fc.site, .int .u32 (R.fc.bit : Nat), .int .u32 R.fc.cyc, .int .u32 R.fc.dur, .int .u8 R.fc.kind, .int .u32 R.fo.site, .int .u32 (R.fo.bit : Nat), .int .u32 R.fo.cyc, .int .u32 R.fo.dur, .int .u8 R.fo.kind, .bool R.kc, .bool R.ko, .bool R.hd, .int .u32 R.desc, .pointer (some ⟨wc.heap.size + 1 + 1, 0, none⟩), .pointer none, L.rv] 38 = w7 := ⟨_, rfl⟩
    have hbg7 : Blk w7 L.rg #[L.pv, .map (some L.img), .pointer (some ⟨L.ubP, 0, none⟩), .pointer (some ⟨L.ubD, 0, none⟩), .bool R.hc, .bool R.ho, .int .u32 R.fc.site, .int .u32 (R.fc.bit : Nat), .int .u32 R.fc.cyc, .int .u32 R.fc.dur, .int .u8 R.fc.kind, .int .u32 R.fo.site, .int .u32 (R.fo.bit : Nat), .int .u32 R.fo.cyc, .int .u32 R.fo.dur, .int .u8 R.fo.kind, .bool R.kc, .bool R.ko, .bool R.hd, .int .u32 R.desc, .pointer (some ⟨wc.heap.size + 1 + 1, 0, none⟩), .pointer none, L.rv] 38 := by rw [← hw7]; exact Blk.put_same hl6
    rw [hw7] at HF6 HB6 ⊢
    clear hw7 hl6
    have d3 : w7.cell? ⟨L.rg, 3, none⟩ = some (.pointer (some ⟨L.ubD, 0, none⟩)) := hbg7.cell 3
    have HBG7 := hid_of hbg7
    clear hbg7
    have HND := hid_of (dnew_any L.ubD fa fn fc w7)
    rw [HB6.out.2.2] at HND
    refine wp_region_list ?_
    go_wp2_with fail
    refine HND.out.mono ?_
    rintro e w8 ⟨rfl, hw8⟩
    have hbe8 : Below w7.heap.size w7 w8 := by
      rw [hw8]
      exact (((Below.refl _ _).alloc (Nat.le_refl _) _).alloc (by simp) _).alloc (by simp; omega) _
    have hbr8 : BR w8 (wc.heap.size + 1 + 1 + 1 + 1) (wc.heap.size + 1 + 1 + 1) (.slice fa fn fc) (bd0 (fsR R)) := by
      rw [hw8]
      have k := br_new w7 (.slice fa fn fc) (fsR R) HB6.out.1.sl (fsR_ok HOK.out).1 (fsR_ok HOK.out).2
      rw [HB6.out.2.2] at k
      exact k.below ((Below.refl _ _).alloc (Nat.le_refl _) _)
    have hdb8 : Blk w8 (wc.heap.size + 1 + 1 + 1 + 1 + 1) (dmaV (wc.heap.size + 1 + 1 + 1 + 1) L.ubD dd0) 97 := by
      rw [hw8]
      have k := Blk.new ((w7.alloc (.cells (encK fun _ => 0) 30)).alloc (.cells (bV (wc.heap.size + 1 + 1 + 1) (.slice fa fn fc) 0) 125)) (dmaV (wc.heap.size + 1 + 1 + 1 + 1) L.ubD dd0) 97
      rw [size_alloc', size_alloc', HB6.out.2.2] at k
      exact k
    have hpb8 : Blk w8 (wc.heap.size + 1 + 1) (pairV (wc.heap.size + 1) L.ubP L.pv rep0) 93 := (hbe8.block _ HB6.out.2.1.lt).trans HB6.out.2.1
    have hbg8 : Blk w8 L.rg #[L.pv, .map (some L.img), .pointer (some ⟨L.ubP, 0, none⟩), .pointer (some ⟨L.ubD, 0, none⟩), .bool R.hc, .bool R.ho, .int .u32 R.fc.site, .int .u32 (R.fc.bit : Nat), .int .u32 R.fc.cyc, .int .u32 R.fc.dur, .int .u8 R.fc.kind, .int .u32 R.fo.site, .int .u32 (R.fo.bit : Nat), .int .u32 R.fo.cyc, .int .u32 R.fo.dur, .int .u8 R.fo.kind, .bool R.kc, .bool R.ko, .bool R.hd, .int .u32 R.desc, .pointer (some ⟨wc.heap.size + 1 + 1, 0, none⟩), .pointer none, L.rv] 38 := (hbe8.block _ HBG7.out.lt).trans HBG7.out
    obtain ⟨u8, hu8, hl8⟩ := hbg8.out
    have H9 := (H.out.start (w2 := put w8 L.rg #[L.pv, .map (some L.img), .pointer (some ⟨L.ubP, 0, none⟩), .pointer (some ⟨L.ubD, 0, none⟩), .bool R.hc, .bool R.ho, .int .u32 R.fc.site, .int .u32 (R.fc.bit : Nat), .int .u32 R.fc.cyc, .int .u32 R.fc.dur, .int .u8 R.fc.kind, .int .u32 R.fo.site, .int .u32 (R.fo.bit : Nat), .int .u32 R.fo.cyc, .int .u32 R.fo.dur, .int .u8 R.fo.kind, .bool R.kc, .bool R.ko, .bool R.hd, .int .u32 R.desc, .pointer (some ⟨wc.heap.size + 1 + 1, 0, none⟩), .pointer (some ⟨wc.heap.size + 1 + 1 + 1 + 1 + 1, 0, none⟩), L.rv] 38) (fsR R) (wc.heap.size + 1 + 1) (wc.heap.size + 1) wc.heap.size (wc.heap.size + 1 + 1 + 1 + 1 + 1) (wc.heap.size + 1 + 1 + 1 + 1) (wc.heap.size + 1 + 1 + 1) (.slice fa fn fc)
      ((HF6.out.below (hbe8.mono HF6.out.size)).put (fun _ => rfl) _ _) (Blk.put_same hbg8.lt) (hpb8.put_ne (by have := HSZ.out.2; omega))
      (by
        have k := HB6.out.1.below hbe8
        exact ⟨k.blk.put_ne (by have := HSZ.out.2; omega), k.cel.put_ne (by have := HSZ.out.2; omega), k.sl.same fun q hq => put_heap_ne _ _ _ _ _ (hbg8.sl_ne (by decide) k.sl q hq), k.ok, k.len, k.now⟩)
      (hdb8.put_ne (by have := HSZ.out.2; omega))
      ⟨hbr8.blk.put_ne (by have := HSZ.out.2; omega), hbr8.cel.put_ne (by have := HSZ.out.2; omega), hbr8.sl.same fun q hq => put_heap_ne _ _ _ _ _ (hbg8.sl_ne (by decide) hbr8.sl q hq), hbr8.ok, hbr8.len, hbr8.now⟩
      HSZ.out.1 ⟨by omega, by omega, by omega, by omega, by omega⟩ HLO.out)
    rw [hu8, put_put] at H9
    have HS9 := hid_of H9
    clear H9 HND hw8 hbe8 hbr8 hdb8 hbg8 hpb8 d3 HBG7 HB6 HF6
    subst hu8
    go_upto_region 8 with fail
    obtain ⟨w9, hw9⟩ : ∃ w9, put u8 L.rg #[L.pv, .map (some L.img), .pointer (some ⟨L.ubP, 0, none⟩), .pointer (some ⟨L.ubD, 0, none⟩), .bool R.hc, .bool R.ho, .int .u32 R.fc.site, .int .u32 (R.fc.bit : Nat), .int .u32 R.fc.cyc, .int .u32 R.fc.dur, .int .u8 R.fc.kind, .int .u32 R.fo.site, .int .u32 (R.fo.bit : Nat), .int .u32 R.fo.cyc, .int .u32 R.fo.dur, .int .u8 R.fo.kind, .bool R.kc, .bool R.ko, .bool R.hd, .int .u32 R.desc, .pointer (some ⟨wc.heap.size + 1 + 1, 0, none⟩), .pointer (some ⟨wc.heap.size + 1 + 1 + 1 + 1 + 1, 0, none⟩), L.rv] 38 = w9 := ⟨_, rfl⟩
    rw [hw9] at HS9 ⊢
    clear hw9 hl8
    have d18 : w9.cell? ⟨L.rg, 18, none⟩ = some (.bool R.hd) := HS9.out.1.rg.1.cell 18
    have d21 : w9.cell? ⟨L.rg, 21, none⟩ = some (.pointer (some ⟨wc.heap.size + 1 + 1 + 1 + 1 + 1, 0, none⟩)) := HS9.out.1.rg.1.cell 21
    have d19 : w9.cell? ⟨L.rg, 19, none⟩ = some (.int .u32 R.desc) := HS9.out.1.rg.1.cell 19
    cases hd : R.hd
    · rw [hd] at d18
      have HX : Hid (strR R = { R with run := true, BP := bd0 (fsR R), last := rep0, DM := dd0, BM := bd0 (fsR R) }) := by unfold Hid strR; rw [hd]; rfl
      go_wp2_with fail
      exact HKF.out _ _ _ { L with pb := wc.heap.size + 1 + 1, bbP := wc.heap.size + 1, cbP := wc.heap.size, db := wc.heap.size + 1 + 1 + 1 + 1 + 1, bbD := wc.heap.size + 1 + 1 + 1 + 1, cbD := wc.heap.size + 1 + 1 + 1, fv := .slice fa fn fc } (by kernel_rfl) (by rw [← HQ0.out, HR0.out, if_neg (by decide), HX.out]; exact HS9.out.1) HS9.out.2 rfl
    · rw [hd] at d18
      have HX : Hid (strR R = { R with run := true, BP := bd0 (fsR R), last := rep0, DM := strD dd0 R.desc, BM := idxF (bd0 (fsR R)) 0 }) := by unfold Hid strR; rw [hd]; rfl
      have hr9 := HS9.out.1.drew
      have HST := hid_of (start_any _ _ _ _ _ dd0 (by decide) (bd0 (fsR R)) R.desc w9.drew (hr9.dma rfl).1 (hr9.bD rfl).b)
      clear hr9
      go_upto_region 9 with fail
      refine wp_region_float [0, 1, 2, 3, 4, 5, 6, 7] [8] [0, 1, 2, 4, 5, 6] mixed (fun ω => ω.cell? ⟨L.rg, 21, none⟩ = some (.pointer (some ⟨wc.heap.size + 1 + 1 + 1 + 1 + 1, 0, none⟩)) ∧ ω.cell? ⟨L.rg, 19, none⟩ = some (.int .u32 R.desc)) (by kernel_rfl) rfl (by kernel_rfl) ⟨d21, d19⟩ ?_
      iterate 8 refine wpFl_op _ _ _ _ rfl rfl (fun ω hj => by
        first
        | (go_simp; rfl)
        | (have j1 := (hj rfl).1
           have j2 := (hj rfl).2
           go_simp; rfl)) ?_
      refine wpFl_nil _ _ ?_
      simp only [Act.put, List.setIfInBounds_toArray]
      refine wpCh_rest _ _ _ _ [_] _ _ rfl (by kernel_rfl) ?_
      simp only [List.getElem_toArray, List.getElem_cons_succ, List.getElem_cons_zero]
      go_wp2_with fail
      refine HST.out.mono ?_
      rintro e wA ⟨rfl, q1, q2, q3⟩
      have HA := hid_of (HS9.out.1.drew.startD rfl q1 q2 q3)
      clear HST q1 q2 q3
      go_wp2_with fail
      exact HKF.out _ _ _ { L with pb := wc.heap.size + 1 + 1, bbP := wc.heap.size + 1, cbP := wc.heap.size, db := wc.heap.size + 1 + 1 + 1 + 1 + 1, bbD := wc.heap.size + 1 + 1 + 1 + 1, cbD := wc.heap.size + 1 + 1 + 1, fv := .slice fa fn fc } (by kernel_rfl) (by rw [← HQ0.out, HR0.out, if_neg (by decide), HX.out]; exact HA.out.1) (HS9.out.2.drew.trans HA.out.2) rfl
  case rest2 =>
  have HQ1 : Hid (ROk Q ∧ Q.run = true ∧ Q.reps.length < 2000000000) := by
    unfold Hid
    rw [← HQ0.out]
    split
    · rename_i q; exact ⟨HOK.out, q, HN.out⟩
    · rename_i q; exact ⟨HOK.out.str (by simpa using q), rfl, HN.out⟩
  rintro act wc ⟨u, own1, L1, rfl, HX⟩
  unfold fr27
  obtain ⟨hx1, hx2, hx3⟩ := HX.out
  clear HX
  rw [← hx3]
  have HE1 := hid_of hx2
  have HR1 := hid_of hx1
  have HL3 := hid_of hx3
  clear hx1 hx2 hx3 HOK HN H HR0 HQ0
  have HQR := hid_of HQ1.out.2.1
  have HN : Hid (Q.reps.length < 2000000000) := HQ1.out.2.2
  have HRd : Hid (RR own1 wc.drew L1 Q) := HR1.out.drew
  obtain ⟨va, vc, hrv⟩ := HR1.out.reps.1.form'
  obtain ⟨vn, hvn⟩ : ∃ vn, Q.reps.length = vn := ⟨_, rfl⟩
  rw [hvn] at hrv
  have HRV := hid_of hrv
  have HVN := hid_of hvn
  have HJ : Hid (wc.drew.cell? ⟨L1.rg, 22, none⟩ = some (.slice va vn vc) ∧ wc.drew.cell? ⟨L1.rg, 20, none⟩ = some (.pointer (some ⟨L1.pb, 0, none⟩))) := by
    refine ⟨by have := HRd.out.rg.1.cell 22; rw [← hrv]; exact this, ?_⟩
    have := HRd.out.rg.1.cell 20
    simp only [rigV, ptr, HQR.out] at this
    exact this
  have HST := hid_of (pstep_any L1.pb L1.bbP L1.cbP L1.ubP L1.mbP L1.fv L1.pv L1.lvP L1.gvP Q.prog Q.last Q.BP Q.uP Q.reps.length HQ1.out.1.pw HQ1.out.1.plen (HQ1.out.1.BP HQR.out).1 HQ1.out.1.uP (by have := HN.out; omega) (by rw [(HQ1.out.1.BP HQR.out).2]; have := HN.out; omega) wc.drew (HRd.out.pair HQR.out).1 (HRd.out.bP HQR.out).b HRd.out.uP.u HRd.out.prog.1
    (fun k hk e => by have h1 := HRd.out.prog.2 k hk; rw [e, (HRd.out.bP HQR.out).o2] at h1; cases h1) (fun k hk e => by have h1 := HRd.out.uP.o3 k hk; rw [e, (HRd.out.bP HQR.out).o2] at h1; cases h1))
  obtain ⟨rp, hrp⟩ : ∃ rp, (pairF Q.prog Q.BP Q.uP).r = rp := ⟨_, rfl⟩
  have HRP := hid_of hrp
  rw [hrp] at HST
  unfold repV at HST
  obtain ⟨i0, hinf, hz0, hz1, hz2⟩ := info_parts info51
  clear hrv hvn hrp
  go_upto_region 10 with fail
  refine wp_region_float [0, 1, 2, 3, 4, 5, 6, 7, 8] [9, 10, 11, 12, 13, 14] [0, 1, 2, 3, 5, 6, 7] mixed (fun ω => ω.cell? ⟨L1.rg, 22, none⟩ = some (.slice va vn vc) ∧ ω.cell? ⟨L1.rg, 20, none⟩ = some (.pointer (some ⟨L1.pb, 0, none⟩))) (by kernel_rfl) rfl (by kernel_rfl) HJ.out ?_
  iterate 9 refine wpFl_op _ _ _ _ rfl rfl (fun ω hj => by
    first
    | (go_simp; rfl)
    | (have j1 := (hj rfl).1
       have j2 := (hj rfl).2
       go_simp; rfl)) ?_
  refine wpFl_nil _ _ ?_
  simp only [Act.put, List.setIfInBounds_toArray]
  refine wpCh_one _ _ _ _ rfl ?_
  go_wp2_with fail
  refine HST.out.mono ?_
  rintro e w2 ⟨rfl, lv2, gv2, q1, q2, q3, q4, q5, q6⟩
  have HS2 := hid_of (HRd.out.stepP HQR.out q1 q2 q3 q4 q5 q6)
  clear HST q1 q2 q3 q4 q5 q6
  have HJ2 : Hid (w2.cell? ⟨L1.rg, 22, none⟩ = some (.slice va vn vc) ∧ w2.cell? ⟨L1.rg, 20, none⟩ = some (.pointer (some ⟨L1.pb, 0, none⟩))) := by
    refine ⟨by have := HS2.out.1.rg.1.cell 22; rw [← HRV.out]; exact this, ?_⟩
    have := HS2.out.1.rg.1.cell 20
    simp only [rigV, ptr, HQR.out] at this
    exact this
  go_wp2_with fail
  refine ⟨HJ2.out, ?_⟩
  refine wpCh_one _ _ _ _ rfl ?_
  go_wp2_with fail
  have HRA : Hid (RR (nmark own1 wc.drew.heap.size gv2 5) (w2.alloc (.cells [.int .u32 rp.raw.c, .int .u32 rp.raw.a, .int .u32 rp.raw.d, .int .u32 rp.del.c, .int .u32 rp.del.a, .int .u32 rp.del.d, .int .u32 rp.sha.c, .int .u32 rp.sha.a, .int .u32 rp.sha.d, .bool rp.fa, .bool rp.fb, .bool rp.al, .bool rp.gr].toArray 51)) { L1 with lvP := lv2, gvP := gv2 } { Q with uP := (pairF Q.prog Q.BP Q.uP).U, BP := (pairF Q.prog Q.BP Q.uP).B, last := rp }) := HS2.out.1.below ((Below.refl _ _).alloc (Nat.le_refl _) _)
  have HJ3 : Hid ((w2.alloc (.cells [.int .u32 rp.raw.c, .int .u32 rp.raw.a, .int .u32 rp.raw.d, .int .u32 rp.del.c, .int .u32 rp.del.a, .int .u32 rp.del.d, .int .u32 rp.sha.c, .int .u32 rp.sha.a, .int .u32 rp.sha.d, .bool rp.fa, .bool rp.fb, .bool rp.al, .bool rp.gr].toArray 51)).cell? ⟨L1.rg, 22, none⟩ = some (.slice va vn vc) ∧ (w2.alloc (.cells [.int .u32 rp.raw.c, .int .u32 rp.raw.a, .int .u32 rp.raw.d, .int .u32 rp.del.c, .int .u32 rp.del.a, .int .u32 rp.del.d, .int .u32 rp.sha.c, .int .u32 rp.sha.a, .int .u32 rp.sha.d, .bool rp.fa, .bool rp.fb, .bool rp.al, .bool rp.gr].toArray 51)).cell? ⟨L1.rg, 20, none⟩ = some (.pointer (some ⟨L1.pb, 0, none⟩))) := by
    refine ⟨by have := HRA.out.rg.1.cell 22; rw [← HRV.out]; exact this, ?_⟩
    have := HRA.out.rg.1.cell 20
    simp only [rigV, ptr, HQR.out] at this
    exact this
  have HSW : Hid (Sl (w2.alloc (.cells [.int .u32 rp.raw.c, .int .u32 rp.raw.a, .int .u32 rp.raw.d, .int .u32 rp.del.c, .int .u32 rp.del.a, .int .u32 rp.del.d, .int .u32 rp.sha.c, .int .u32 rp.sha.a, .int .u32 rp.sha.d, .bool rp.fa, .bool rp.fb, .bool rp.al, .bool rp.gr].toArray 51)) (.slice va vn vc) 51 13 vn (Q.reps.flatMap reprow)) := by
    have h9 : Sl (w2.alloc (.cells [.int .u32 rp.raw.c, .int .u32 rp.raw.a, .int .u32 rp.raw.d, .int .u32 rp.del.c, .int .u32 rp.del.a, .int .u32 rp.del.d, .int .u32 rp.sha.c, .int .u32 rp.sha.a, .int .u32 rp.sha.d, .bool rp.fa, .bool rp.fb, .bool rp.al, .bool rp.gr].toArray 51)) L1.rv 51 13 Q.reps.length (Q.reps.flatMap reprow) := HRA.out.reps.1
    rw [HRV.out, HVN.out] at h9
    exact h9
  have hvn9 : vn < 2000000000 := by rw [← HVN.out]; exact HN.out
  refine ⟨HJ3.out, ?_⟩
  refine wpCh_rest _ _ _ _ [_, _, _, _] _ _ rfl (by kernel_rfl) ?_
  simp only [List.getElem_toArray, List.getElem_cons_succ, List.getElem_cons_zero]
  go_wp2_with (at_builtin; (refine wpList_append_sl _ rfl (.tmp 81) (.tmp 87) 36 rfl 51 i0 (.agg #[.int .u32 0, .int .u32 0, .int .u32 0, .int .u32 0, .int .u32 0, .int .u32 0, .int .u32 0, .int .u32 0, .int .u32 0, .bool false, .bool false, .bool false, .bool false]) 13 40 Try.underlying36 hinf hz0 hz1 hz2 rfl (by decide) _ _ _ rfl HSW.out ⟨w2.heap.size, 0, none⟩ 1 1 [.int .u32 rp.raw.c, .int .u32 rp.raw.a, .int .u32 rp.raw.d, .int .u32 rp.del.c, .int .u32 rp.del.a, .int .u32 rp.del.d, .int .u32 rp.sha.c, .int .u32 rp.sha.a, .int .u32 rp.sha.d, .bool rp.fa, .bool rp.fb, .bool rp.al, .bool rp.gr] rfl rfl ?d1 ?d2 ?d3 ?d4 ?_))
  try (case d1 => exact cells_new _ _ _ _ rfl)
  try (case d2 => intro v hv; simp at hv; rcases hv with rfl | rfl | rfl | rfl | rfl | rfl | rfl | rfl | rfl | rfl | rfl | rfl | rfl <;> rfl)
  try (case d3 => unfold maxLen; omega)
  try (case d4 => omega)
  intro v' w3 hsl3 hgr hnew
  obtain ⟨a3, c3, hv3⟩ := hsl3.form'
  subst hv3
  have hs3 : Sl w3 (.slice a3 (vn + 1) c3) 51 13 (Q.reps ++ [rp]).length ((Q.reps ++ [rp]).flatMap reprow) := by
    rw [List.length_append, List.length_singleton, HVN.out, List.flatMap_append]
    exact hsl3
  have hrep := HRA.out.report (rv := .slice a3 (vn + 1) c3) (Q.reps ++ [rp]) (by show (w2.alloc _).grownBy w3 L1.rv.ownBlock; rw [HRV.out]; exact hgr) hs3 (by show ∀ k, _ → L1.rv.ownBlock = some k ∨ _; rw [HRV.out]; exact fun k hk => or_le (hnew k hk) (by first | (rw [size_alloc']; exact Nat.le_refl _) | exact Nat.le_refl _))
  have hbg3 : Blk w3 L1.rg (rigV L1 Q) 38 := by
    have h8 : Blk (w2.alloc (.cells [.int .u32 rp.raw.c, .int .u32 rp.raw.a, .int .u32 rp.raw.d, .int .u32 rp.del.c, .int .u32 rp.del.a, .int .u32 rp.del.d, .int .u32 rp.sha.c, .int .u32 rp.sha.a, .int .u32 rp.sha.d, .bool rp.fa, .bool rp.fb, .bool rp.al, .bool rp.gr].toArray 51)) L1.rg (rigV L1 Q) 38 := HRA.out.rg.1
    refine (hgr.block _ h8.lt (fun e => ?_)).trans h8
    exact h8.sl_ne (by decide) HSW.out L1.rg e.symm rfl
  obtain ⟨u3, hu3, hl3⟩ := hbg3.out
  rw [hu3, put_put] at hrep
  have HREP := hid_of hrep
  have hu3' : w3 = put u3 L1.rg #[L1.pv, .map (some L1.img), .pointer (some ⟨L1.ubP, 0, none⟩), .pointer (some ⟨L1.ubD, 0, none⟩), .bool Q.hc, .bool Q.ho, .int .u32 Q.fc.site, .int .u32 (Q.fc.bit : Nat), .int .u32 Q.fc.cyc, .int .u32 Q.fc.dur, .int .u8 Q.fc.kind, .int .u32 Q.fo.site, .int .u32 (Q.fo.bit : Nat), .int .u32 Q.fo.cyc, .int .u32 Q.fo.dur, .int .u8 Q.fo.kind, .bool Q.kc, .bool Q.ko, .bool Q.hd, .int .u32 Q.desc, .pointer (some ⟨L1.pb, 0, none⟩), .pointer (some ⟨L1.db, 0, none⟩), L1.rv] 38 := by
    rw [hu3]
    unfold rigV ptr
    rw [HQR.out]
    rfl
  clear hrep hbg3 hs3 hgr hnew hsl3 HSW HRA HJ HJ2 HJ3 hinf hz0 hz1 hz2 hu3
  subst hu3'
  go_upto_region 11 with fail
  obtain ⟨w4, hw4⟩ : ∃ w4, put u3 L1.rg #[L1.pv, .map (some L1.img), .pointer (some ⟨L1.ubP, 0, none⟩), .pointer (some ⟨L1.ubD, 0, none⟩), .bool Q.hc, .bool Q.ho, .int .u32 Q.fc.site, .int .u32 (Q.fc.bit : Nat), .int .u32 Q.fc.cyc, .int .u32 Q.fc.dur, .int .u8 Q.fc.kind, .int .u32 Q.fo.site, .int .u32 (Q.fo.bit : Nat), .int .u32 Q.fo.cyc, .int .u32 Q.fo.dur, .int .u8 Q.fo.kind, .bool Q.kc, .bool Q.ko, .bool Q.hd, .int .u32 Q.desc, .pointer (some ⟨L1.pb, 0, none⟩), .pointer (some ⟨L1.db, 0, none⟩), .slice a3 (vn + 1) c3] 38 = w4 := ⟨_, rfl⟩
  have HR4 : Hid (RR (nmark (nmark own1 wc.drew.heap.size gv2 5) (w2.alloc (.cells [.int .u32 rp.raw.c, .int .u32 rp.raw.a, .int .u32 rp.raw.d, .int .u32 rp.del.c, .int .u32 rp.del.a, .int .u32 rp.del.d, .int .u32 rp.sha.c, .int .u32 rp.sha.a, .int .u32 rp.sha.d, .bool rp.fa, .bool rp.fb, .bool rp.al, .bool rp.gr].toArray 51)).heap.size (.slice a3 (vn + 1) c3) 9) w4 { L1 with lvP := lv2, gvP := gv2, rv := .slice a3 (vn + 1) c3 } (cy1 Q) ∧ Ext (nmark own1 wc.drew.heap.size gv2 5) (nmark (nmark own1 wc.drew.heap.size gv2 5) (w2.alloc (.cells [.int .u32 rp.raw.c, .int .u32 rp.raw.a, .int .u32 rp.raw.d, .int .u32 rp.del.c, .int .u32 rp.del.a, .int .u32 rp.del.d, .int .u32 rp.sha.c, .int .u32 rp.sha.a, .int .u32 rp.sha.d, .bool rp.fa, .bool rp.fb, .bool rp.al, .bool rp.gr].toArray 51)).heap.size (.slice a3 (vn + 1) c3) 9) (fun k => k ≤ 18) (w2.alloc (.cells [.int .u32 rp.raw.c, .int .u32 rp.raw.a, .int .u32 rp.raw.d, .int .u32 rp.del.c, .int .u32 rp.del.a, .int .u32 rp.del.d, .int .u32 rp.sha.c, .int .u32 rp.sha.a, .int .u32 rp.sha.d, .bool rp.fa, .bool rp.fb, .bool rp.al, .bool rp.gr].toArray 51)) w4) := by
    have e1 : put u3 L1.rg #[L1.pv, .map (some L1.img), .pointer (some ⟨L1.ubP, 0, none⟩), .pointer (some ⟨L1.ubD, 0, none⟩), .bool Q.hc, .bool Q.ho, .int .u32 Q.fc.site, .int .u32 (Q.fc.bit : Nat), .int .u32 Q.fc.cyc, .int .u32 Q.fc.dur, .int .u8 Q.fc.kind, .int .u32 Q.fo.site, .int .u32 (Q.fo.bit : Nat), .int .u32 Q.fo.cyc, .int .u32 Q.fo.dur, .int .u8 Q.fo.kind, .bool Q.kc, .bool Q.ko, .bool Q.hd, .int .u32 Q.desc, .pointer (some ⟨L1.pb, 0, none⟩), .pointer (some ⟨L1.db, 0, none⟩), .slice a3 (vn + 1) c3] 38 = put u3 L1.rg (rigV { L1 with lvP := lv2, gvP := gv2, rv := .slice a3 (vn + 1) c3 } Q) 38 := by
      unfold rigV ptr
      rw [HQR.out]
      rfl
    rw [← hw4, e1]
    have e2 : cy1 Q = { Q with uP := (pairF Q.prog Q.BP Q.uP).U, BP := (pairF Q.prog Q.BP Q.uP).B, last := rp, reps := Q.reps ++ [rp] } := by unfold cy1; rw [HRP.out]
    rw [e2]
    exact HREP.out
  rw [hw4]
  clear hw4 hl3 HREP
  have HQ4 : Hid (ROk { (cy1 Q) with BM := nextB Q.BM }) := HQ1.out.1.cy1 HQR.out
  have d21 : w4.cell? ⟨L1.rg, 21, none⟩ = some (.pointer (some ⟨L1.db, 0, none⟩)) := by
    have := HR4.out.1.rg.1.cell 21
    simp only [rigV, ptr] at this
    rw [show (cy1 Q).run = true from HQR.out] at this
    exact this
  have HDS := hid_of (dstep_any L1.db L1.bbD L1.cbD L1.ubD L1.mbD L1.fv L1.lvD L1.gvD Q.DM (HQ1.out.1.DM HQR.out) Q.BM (HQ1.out.1.BM HQR.out).1 Q.uD Q.reps.length HQ1.out.1.uD (by have := HN.out; omega) (by rw [(HQ1.out.1.BM HQR.out).2]; have := HN.out; omega) w4 (HR4.out.1.dma HQR.out).1 (HR4.out.1.bD HQR.out).b HR4.out.1.uD.u
    (fun k hk e => by have h1 := HR4.out.1.uD.o3 k hk; rw [e, (HR4.out.1.bD HQR.out).o2] at h1; cases h1))
  refine wp_region_list ?_
  go_wp2_with fail
  refine HDS.out.mono ?_
  rintro e w5 ⟨rfl, lv5, gv5, q1, q2, q3, q4, q5, q6⟩
  have HS5 := hid_of (HR4.out.1.stepD HQR.out q1 q2 q3 q4 q5 q6)
  clear HDS q1 q2 q3 q4 q5 q6 d21
  go_wp2_with fail
  refine bodyPost_end (v := .tuple #[]) (results_none rfl _ _ _) rfl ⟨rfl, _, _, HS5.out.1, ?_, HL3.out⟩
  have xa : Ext (nmark own1 wc.drew.heap.size gv2 5) (nmark own1 wc.drew.heap.size gv2 5) (fun k => k ≤ 18) w2 (w2.alloc (.cells [.int .u32 rp.raw.c, .int .u32 rp.raw.a, .int .u32 rp.raw.d, .int .u32 rp.del.c, .int .u32 rp.del.a, .int .u32 rp.del.d, .int .u32 rp.sha.c, .int .u32 rp.sha.a, .int .u32 rp.sha.d, .bool rp.fa, .bool rp.fb, .bool rp.al, .bool rp.gr].toArray 51)) := Ext.alloc' _ _ _ _
  have xb : Ext own own1 (fun k => k ≤ 18) w wc.drew := HE1.out.drew
  exact (((xb.trans HS2.out.2).trans xa).trans HR4.out.2).trans HS5.out.2
end Go.Proofs.Qxb6500749a
