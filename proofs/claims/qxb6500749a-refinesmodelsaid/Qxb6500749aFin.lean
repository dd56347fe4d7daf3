import Derived.Test.Qxb6500749aDpp
namespace Go.Proofs.Qxb6500749a
open Go.RowKit
attribute [local go_sem] put_size put_cell_same put_cell_ne put_frozen_same put_frozen_ne put_setCell_same put_setCell_ne put_drew
attribute [local go_sem] drewN_setCell drewN_alloc drewN_put
/-! ### finishDMA -/
def fr31a (rg : Nat) (u : Nat → Value) : Act :=
  { tmps := ((.pointer (some ⟨rg, 0, none⟩)) :: (u 1) :: (u 2) :: (u 3) :: (u 4) :: (u 5) :: (u 6) :: (u 7) :: (u 8) :: (u 9) :: (u 10) :: (u 11) :: (u 12) :: (u 13) :: (u 14) :: (u 15) :: (u 16) :: (u 17) :: (u 18) :: (u 19) :: (u 20) :: (u 21) :: (u 22) :: [] : List Value).toArray, defers := [] }
def fr31c (rg : Nat) (b : Bool) (u : Nat → Value) : Act :=
  { tmps := ((.pointer (some ⟨rg, 0, none⟩)) :: (u 1) :: (u 2) :: (u 3) :: (u 4) :: (u 5) :: (u 6) :: (u 7) :: (.bool b) :: (u 9) :: (u 10) :: (u 11) :: (u 12) :: (u 13) :: (u 14) :: (u 15) :: (u 16) :: (u 17) :: (u 18) :: (u 19) :: (u 20) :: (u 21) :: (u 22) :: [] : List Value).toArray, defers := [] }
def fr31 (rg i : Nat) (u : Nat → Value) : Act :=
  { tmps := ((.pointer (some ⟨rg, 0, none⟩)) :: (u 1) :: (u 2) :: (.int .i64 (i : Nat)) :: (u 4) :: (u 5) :: (u 6) :: (u 7) :: (u 8) :: (u 9) :: (u 10) :: (u 11) :: (u 12) :: (u 13) :: (u 14) :: (u 15) :: (u 16) :: (u 17) :: (u 18) :: (u 19) :: (u 20) :: (u 21) :: (u 22) :: [] : List Value).toArray, defers := [] }
structure Fin (own : Nat → Nat) (w : World) (R : RG) (rg : Nat) (wr : World) (own1 : Nat → Nat) (L1 : LY) (R1 : RG) (n μ : Nat) : Prop where
  rr : RR own1 wr L1 R1
  kp : Kp R R1
  ext : Ext own own1 (fun k => k ≤ 18) w wr
  lrg : L1.rg = rg
  run : R1.run = true
  len : R1.reps.length ≤ n
  pi : PI μ R1
theorem cyc_len (R : RG) : (cycR R).reps.length = R.reps.length + 1 := by
  show ((if R.run = true then R else strR R).reps ++ [_]).length = _
  have : (if R.run = true then R else strR R).reps = R.reps := by split <;> rfl
  rw [this, List.length_append, List.length_singleton]
theorem Fin.busy {own own1 : Nat → Nat} {w wr : World} {R R1 : RG} {rg n : Nat} {L1 : LY} {i : Nat} (h : Fin own w R rg wr own1 L1 R1 n (2305 - i)) (hs : R.hd = true → 49 ≤ zR R → zR R < 55 → sndM R.img R.desc) (hb : R1.DM.st = 1) : i < 2305 := by
  rcases Nat.lt_or_ge i 2305 with q | q
  · exact q
  · exfalso
    cases hd : R1.hd
    · have := (h.pi.idle h.run hd).1
      omega
    · have h0 := h.pi.go h.run hd (fun z1 z2 => by
        rw [h.kp.zR] at z1 z2
        rw [h.kp.img, h.kp.desc]
        exact hs (h.kp.hd ▸ hd) z1 z2)
      rw [show 2305 - i = 0 by omega] at h0
      exact DI.ended h.pi.ok.uD h0 hb
theorem Fin.cyc {own own1 own2 : Nat → Nat} {w wr w2 : World} {R R1 : RG} {rg n μ : Nat} {L1 L2 : LY} (h : Fin own w R rg wr own1 L1 R1 n (μ + 1)) (h1 : RR own2 w2 L2 (cycR R1)) (h2 : Ext own1 own2 (fun k => k ≤ 18) wr w2) (h3 : L2.rg = rg) : Fin own w R rg w2 own2 L2 (cycR R1) (n + 1) μ :=
  ⟨h1, h.kp.trans (cyc_kp R1).1, h.ext.trans h2, h3, (cyc_kp R1).2, by rw [cyc_len]; have := h.len; omega, h.pi.cyc1 h.run⟩
set_option maxRecDepth 100000 in
set_option maxHeartbeats 4000000 in
theorem finish_any (own : Nat → Nat) (L : LY) (R : RG) (hP : PI 2305 R) (hs : R.hd = true → 49 ≤ zR R → zR R < 55 → sndM R.img R.desc) (hN : R.reps.length < 900000000) (w : World) (h : RR own w L R) :
    Calls Try.prog 31 #[.pointer (some ⟨L.rg, 0, none⟩)] w fun e w' => e = .returned (.bool true) ∧ ∃ own' L' R', Fin own w R L.rg w' own' L' R' (R.reps.length + 2400) 2305 ∧ R'.DM.st ≠ 1 := by
  have c20 : w.cell? ⟨L.rg, 20, none⟩ = some (ptr R.run L.pb) := h.rg.1.cell 20
  have HCY := hid_of (rcycle_any own L R hP.ok (by omega) w h)
  have H := hid_of h
  have HP := hid_of hP
  have HS := hid_of hs
  have HNN := hid_of hN
  clear h hP hs hN
  go_enter Try.func31, Try.ntmps31
  go_upto_region 1 with fail
  refine cutM (Km := fun act wr => ∃ (u : Nat → Value), act = fr31c L.rg (!R.run) u ∧ wr = w) ?rest0 ?first0
  case first0 =>
    obtain ⟨KR, hKR⟩ : ∃ KR : Act → World → Prop, KR = fun act wr => ∃ (u : Nat → Value), act = fr31c L.rg (!R.run) u ∧ wr = w := ⟨_, rfl⟩
    have HKR : Hid (∀ (act : Act), act = fr31c L.rg (!R.run) (fun i => act.tmps.getD i undef) → KR act w) := fun act e => by rw [hKR]; exact ⟨_, e, rfl⟩
    rw [← hKR]
    clear hKR HCY
    cases hr : R.run
    · rw [hr] at c20 HKR
      have c20' : w.cell? ⟨L.rg, 20, none⟩ = some (.pointer none) := c20
      clear c20 hr
      go_wp2_with fail
      exact HKR.out _ (by kernel_rfl)
    · rw [hr] at c20 HKR
      have c20' : w.cell? ⟨L.rg, 20, none⟩ = some (.pointer (some ⟨L.pb, 0, none⟩)) := c20
      clear c20 hr
      go_wp2_with fail
      exact HKR.out _ (by kernel_rfl)
  case rest0 =>
  clear c20
  rintro act wd ⟨u, rfl, hwd⟩
  obtain rfl := hwd.symm
  clear hwd
  unfold fr31c
  go_upto_if 8 with fail
  refine cutM (Km := fun act wr => ∃ (u : Nat → Value) (own1 : Nat → Nat) (L1 : LY) (R1 : RG), act = fr31a L.rg u ∧ Hid (Fin own w R L.rg wr own1 L1 R1 (R.reps.length + 1) 2305)) ?rest ?first
  case first =>
    obtain ⟨KR, hKR⟩ : ∃ KR : Act → World → Prop, KR = fun act wr => ∃ (u : Nat → Value) (own1 : Nat → Nat) (L1 : LY) (R1 : RG), act = fr31a L.rg u ∧ Hid (Fin own w R L.rg wr own1 L1 R1 (R.reps.length + 1) 2305) := ⟨_, rfl⟩
    have HKR : Hid (∀ (act : Act) (wr : World) (own1 : Nat → Nat) (L1 : LY) (R1 : RG), act = fr31a L.rg (fun i => act.tmps.getD i undef) → Fin own w R L.rg wr own1 L1 R1 (R.reps.length + 1) 2305 → KR act wr) := fun act wr own1 L1 R1 e h => by rw [hKR]; exact ⟨_, own1, L1, R1, e, h⟩
    rw [← hKR]
    clear hKR
    cases hr : R.run
    · have HR := hid_of hr
      clear hr
      simp only [Bool.not_false]
      go_wp2_with fail
      refine HCY.out.mono ?_
      rintro e w2 ⟨rfl, own2, L2, h1, h2, h3⟩
      have HF : Hid (Fin own w R L.rg w2 own2 L2 (cycR R) (R.reps.length + 1) 2305) := ⟨h1, (cyc_kp R).1, h2, h3, (cyc_kp R).2, by rw [cyc_len]; exact Nat.le_refl _, (HP.out.cyc0 HR.out).mono (by decide)⟩
      clear HCY h1 h2 h3
      go_wp2_with fail
      exact HKR.out _ _ _ _ _ (by kernel_rfl) HF.out
    · have HF : Hid (Fin own w R L.rg w own L R (R.reps.length + 1) 2305) := ⟨H.out, Kp.refl R, Ext.of_below (Below.refl _ _), rfl, hr, by omega, HP.out⟩
      clear hr HCY
      simp only [Bool.not_true]
      go_wp2_with fail
      exact HKR.out _ _ _ _ _ (by kernel_rfl) HF.out
  case rest =>
  clear HCY H HP
  rintro act wr ⟨u, own1, L1, R1, rfl, HF⟩
  unfold fr31a
  go_wp2_with fail
  refine q_of (Q := fun a => (Code.loop _).wp Try.prog _ a _) (F := fr31 L.rg 0) (fun u0 => ?_) _ (by kernel_rfl)
  refine wp_loop (fun act wr => ∃ (u : Nat → Value) (i : Nat) (own1 : Nat → Nat) (L1 : LY) (R1 : RG), act = fr31 L.rg i u ∧ Hid (Fin own w R L.rg wr own1 L1 R1 (R.reps.length + 1 + i) (2305 - i) ∧ i ≤ 2305)) (fun act _ => 3000 - (intOf (act.tmps.getD 3 undef)).toNat) ⟨u0, 0, own1, L1, R1, rfl, HF.out, by decide⟩ ?_
  clear HF
  rintro act wr ⟨u, i, own1, L1, R1, rfl, HR⟩
  have c21 : wr.cell? ⟨L.rg, 21, none⟩ = some (.pointer (some ⟨L1.db, 0, none⟩)) := by
    have h9 : wr.cell? ⟨L1.rg, 21, none⟩ = some (ptr R1.run L1.db) := HR.out.1.rr.rg.1.cell 21
    rw [HR.out.1.run, HR.out.1.lrg] at h9
    exact h9
  have HST := hid_of (status_any L1.db L1.bbD L1.ubD R1.DM wr (HR.out.1.rr.dma HR.out.1.run).1)
  have HCY := hid_of (rcycle_any own1 L1 R1 HR.out.1.pi.ok (by have := HR.out.1.len; have := HNN.out; have := HR.out.2; omega) wr HR.out.1.rr)
  rw [HR.out.1.lrg] at HCY
  by_cases hst : R1.DM.st = 1
  · have hlt := HR.out.1.busy HS.out hst
    have heq : (((i : Nat) : Int) == 2344) = false := by simp; omega
    have hwr1 : IntKind.i64.wrap (((i : Nat) : Int) + 1) = ((i : Nat) : Int) + 1 := by simp [IntKind.wrap, IntKind.bits, IntKind.signed]; omega
    obtain ⟨KR, hKR⟩ : ∃ KR : Act → World → Prop, KR = fun a' w' => ((fun act wr => ∃ (u : Nat → Value) (i : Nat) (own1 : Nat → Nat) (L1 : LY) (R1 : RG), act = fr31 L.rg i u ∧ Hid (Fin own w R L.rg wr own1 L1 R1 (R.reps.length + 1 + i) (2305 - i) ∧ i ≤ 2305)) a' w' ∧ 3000 - (intOf (a'.tmps.getD 3 undef)).toNat < 3000 - (intOf ((fr31 L.rg i u).tmps.getD 3 undef)).toNat) := ⟨_, rfl⟩
    have HKR : Hid (∀ (act : Act) (w' : World) (own2 : Nat → Nat) (L2 : LY), act = fr31 L.rg (i + 1) (fun i => act.tmps.getD i undef) → RR own2 w' L2 (cycR R1) → Ext own1 own2 (fun k => k ≤ 18) wr w' → L2.rg = L.rg → KR act w') := fun act w' own2 L2 e h1 h2 h3 => by
      rw [hKR]
      have hf := HR.out.1
      rw [show 2305 - i = (2305 - (i + 1)) + 1 by omega] at hf
      refine ⟨⟨_, i + 1, own2, L2, cycR R1, e, hf.cyc h1 h2 h3, hlt⟩, ?_⟩
      have e1 : act.tmps.getD 3 undef = .int .i64 ((i + 1 : Nat) : Int) := by rw [e]; rfl
      have e2 : (fr31 L.rg i u).tmps.getD 3 undef = .int .i64 ((i : Nat) : Int) := rfl
      simp only [e1, e2, intOf]
      omega
    rw [← hKR]
    clear hKR
    rw [hst] at HST
    have HLT := hid_of hlt
    clear hst hlt
    unfold fr31
    go_wp2_with fail
    refine HST.out.mono ?_
    rintro e w2 ⟨rfl, hw2⟩
    obtain rfl := hw2.symm
    clear hw2 HST
    go_wp2_with fail
    refine HCY.out.mono ?_
    rintro e w3 ⟨rfl, own2, L2, h1, h2, h3⟩
    have H1 := hid_of h1
    have H2 := hid_of h2
    have H3 := hid_of h3
    clear HCY h1 h2 h3 c21
    go_wp2_with fail
    exact HKR.out _ _ _ _ (by kernel_rfl) H1.out H2.out H3.out
  · have hne : (R1.DM.st == 1) = false := by simpa using hst
    have HNE := hid_of hst
    clear hst HCY
    unfold fr31
    go_wp2_with fail
    refine HST.out.mono ?_
    rintro e w2 ⟨rfl, hw2⟩
    obtain rfl := hw2.symm
    clear hw2 HST
    go_wp2_with fail
    go_ret
    have hf := HR.out.1
    have hi := HR.out.2
    exact ⟨rfl, own1, L1, R1, ⟨hf.rr, hf.kp, hf.ext, hf.lrg, hf.run, by have := hf.len; omega, hf.pi.mono (by omega)⟩, HNE.out⟩
end Go.Proofs.Qxb6500749a
