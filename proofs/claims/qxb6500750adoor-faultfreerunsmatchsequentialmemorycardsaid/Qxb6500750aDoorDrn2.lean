import Derived.Test.Qxb6500750aDoorDrn
namespace Go.Proofs.Qxb6500750aDoor
open Go.RowKit
theorem collectT_orph (t : Nat) (c : SS × RepD) (h : ((collectT t c).1.x.tp t).orph = true) : (c.1.x.tp t).orph = true := by
  unfold collectT at h
  by_cases hb : (c.1.x.tp t).busy = false
  · rw [if_pos hb] at h; exact h
  rw [if_neg hb] at h
  by_cases hw : t < 6 ∧ tickEnds (c.1.p t) = false
  · rw [if_pos hw] at h
    have h : ((ticked c.1 t).x.tp t).orph = true := h
    rw [ticked_x] at h; exact h
  rw [if_neg hw] at h
  by_cases ho : (c.1.x.tp t).orph = true
  · exact ho
  rw [if_neg ho] at h
  by_cases ha : again c.1.x t (pC t (c.1.p t)) = true
  · rw [if_pos ha] at h; exact h
  · rw [if_neg ha] at h
    by_cases h3 : pS t (c.1.p t) = 3
    · simp only [if_pos h3] at h
      unfold setSlot at h
      rw [setT_tp] at h; exact h
    · simp only [if_neg h3] at h
      unfold setSlot at h
      rw [setT_tp] at h; exact h
theorem colO (σ : SS) (ρ : RepD) : ∀ n, ∀ τ, ((collectN n (σ, ρ)).1.x.tp τ).orph = true → (σ.x.tp τ).orph = true
  | 0, _, h => h
  | n + 1, τ, h => by
    have h : ((collectT n (collectN n (σ, ρ))).1.x.tp τ).orph = true := h
    by_cases e : τ = n
    · subst e; exact colO σ ρ τ τ (collectT_orph τ _ h)
    · rw [((collectT_else n (collectN n (σ, ρ))).1 τ e).1] at h; exact colO σ ρ n τ h
/-- What an orphan's link has yet to wait. -/
def ocost (σ : SS) (t : Nat) : Int := if (σ.x.tp t).busy = true ∧ (σ.x.tp t).orph = true then (if t < 6 then 64 - (σ.p t).wt else 1) else 0
theorem ocost_nn {N : Int} {A : Nat} {σ : SS} (h : XInv N A σ) (t : Nat) : 0 ≤ ocost σ t ∧ ocost σ t ≤ 64 := by
  unfold ocost
  split
  · rename_i hb
    split
    · rename_i h6
      obtain ⟨w0, w1, _⟩ := (h.port t h6).pend ((h.busy t h6).symm.trans hb.1)
      omega
    · omega
  · omega
theorem ocost_tick {N : Int} {A : Nat} {σ : SS} (h : XInv N A σ) (p : Int) {t : Nat} (ht : t < 7) : ocost (tickF p σ).1 t = 0 ∨ ocost (tickF p σ).1 t ≤ ocost σ t - 1 := by
  have T := tickTF h p
  obtain ⟨A1, hi1⟩ := T.inv1
  obtain ⟨⟨etp, _, _, _⟩, _, _⟩ := handN_all ((tick2 p σ).1.x, (tick2 p σ).2) 3
  have e0 : (tickF p σ).1.x.tp = (tick2 p σ).1.x.tp := etp
  have e1 : (tickF p σ).1.p = (tick2 p σ).1.p := rfl
  unfold ocost
  rw [e0, e1]
  by_cases hb : ((tick2 p σ).1.x.tp t).busy = true ∧ ((tick2 p σ).1.x.tp t).orph = true
  · right
    rw [if_pos hb]
    rcases T.outA ht with ⟨_, hr, hq, _⟩ | ⟨m, _, _, hb1, _, _, _, hr, _⟩
    · rw [hr] at hb
      have ho := colO σ rep0 7 t hb.2
      have hbz := h.orp t ht ho
      have h6 : t < 6 := by
        by_cases h6 : t < 6
        · exact h6
        · have : t = 6 := by omega
          subst this
          rw [T.six] at hb; cases hb.1
      rw [if_pos h6, if_pos (show (σ.x.tp t).busy = true ∧ (σ.x.tp t).orph = true from ⟨hbz, ho⟩), hq]
      have hrs : (tickF p σ).2.rs t = false := by
        rcases T.outC ht with ⟨_, e, _⟩ | ⟨hf, _⟩ | ⟨hf, _⟩ | ⟨hf, _⟩
        · exact e
        · rw [ho] at hf; cases hf.2
        · rw [ho] at hf; cases hf.2
        · rw [ho] at hf; cases hf.2
      obtain ⟨ρ2, _, _, ers, _⟩ := T.arb
      have hW := colW h rep0 (fun _ => ⟨rfl, rfl⟩) 7 (Nat.le_refl _) t (by omega) h6 hbz
      have hwt : ((tick1 σ).1.p t).wt = tickW (σ.p t) := hW.2 (by rw [ers] at hrs; exact hrs)
      obtain ⟨w0, w1, _⟩ := (h.port t h6).pend ((h.busy t h6).symm.trans hbz)
      rw [hwt]; unfold tickW; omega
    · exfalso
      rw [hr] at hb
      have := hi1.orp t ht hb.2
      rw [hb1] at this; cases this
  · left; exact if_neg hb
/-- Without orphans: what waits behind a tick, waits for a target in flight. -/
theorem wait_fly {N : Int} {A : Nat} {σ : SS} (h : XInv N A σ) (p : Int) (hno : ∀ t, t < 7 → ocost (tickF p σ).1 t = 0) {m : Nat} (hm : m < 3) (hw : ((tickF p σ).1.x.mp m).gr < ((tickF p σ).1.x.mp m).iss) : ∃ t, t < 7 ∧ flying (tickF p σ).1.x t := by
  have T := tickTF h p
  obtain ⟨A2, hi2⟩ := T.inv2
  obtain ⟨⟨etp, _, _, _⟩, emp, _⟩ := handN_all ((tick2 p σ).1.x, (tick2 p σ).2) 3
  have e0 : (tickF p σ).1.x.tp = (tick2 p σ).1.x.tp := etp
  have e1 : (tickF p σ).1.p = (tick2 p σ).1.p := rfl
  have hmp : ((tickF p σ).1.x.mp m).iss = ((tick2 p σ).1.x.mp m).iss ∧ ((tickF p σ).1.x.mp m).gr = ((tick2 p σ).1.x.mp m).gr := by
    have := emp m
    rw [if_pos hm] at this
    show ((handN 3 ((tick2 p σ).1.x, (tick2 p σ).2)).1.mp m).iss = _ ∧ ((handN 3 ((tick2 p σ).1.x, (tick2 p σ).2)).1.mp m).gr = _
    rw [this]; split <;> exact ⟨rfl, rfl⟩
  rw [hmp.1, hmp.2] at hw
  have h2 := T.mp2 hm
  obtain ⟨y1, y2, _⟩ := T.col.mp m
  simp only [] at y1 y2
  have hne : ((tick1 σ).1.x.mp m).gr ≠ ((tick1 σ).1.x.mp m).iss := by rw [y1, y2]; omega
  have hwant : wantsF (tick1 σ).1.x (rtAt (tick1 σ).1.x (reqG (tick1 σ).1.x m).ad) m = true := by
    unfold wantsF
    have : (((tick1 σ).1.x.mp m).gr == ((tick1 σ).1.x.mp m).iss) = false := by simpa using hne
    rw [this]; simp
  have ht := rtAt_lt (tick1 σ).1.x (reqG (tick1 σ).1.x m).ad
  generalize rtAt (tick1 σ).1.x (reqG (tick1 σ).1.x m).ad = t at *
  have hwv : wv (wantsF (tick1 σ).1.x t) ≠ 0 := fun e => by
    have hm' : m = 0 ∨ m = 1 ∨ m = 2 := by omega
    unfold wv at e
    rcases hm' with rfl | rfl | rfl <;> rw [hwant] at e <;> simp at e
  have hbusy : ((tick2 p σ).1.x.tp t).busy = true := by
    rcases T.outA ht with ⟨_, hr, _, hb | hb⟩ | ⟨m', _, _, _, _, _, _, hr, _⟩
    · rw [hr]; exact hb
    · exact absurd hb hwv
    · rw [hr]
  refine ⟨t, ht, ?_⟩
  unfold flying
  rw [e0]
  refine ⟨hbusy, ?_⟩
  cases ho : ((tick2 p σ).1.x.tp t).orph
  · rfl
  · exfalso
    have hz := hno t ht
    unfold ocost at hz
    rw [e0, e1, if_pos ⟨hbusy, ho⟩] at hz
    split at hz
    · rename_i h6
      obtain ⟨w0, w1, _⟩ := (hi2.port t h6).pend ((hi2.busy t h6).symm.trans hbusy)
      omega
    · omega
/-- Nothing in flight, nothing waiting: every master is handed an answer. -/
theorem land_tick {N : Int} {A : Nat} {σ : SS} (h : XInv N A σ) {B : BK} {acc : Nat → List Req} (J : JI σ B acc) (p : Int) {m : Nat} (hm : m < 3) :
    ((tickF p σ).1.x.mp m).iss = (σ.x.mp m).iss ∧ (σ.x.mp m).rt ≤ ((tickF p σ).1.x.mp m).rt ∧
    ((∀ t, t < 7 → ¬ flying σ.x t) → (σ.x.mp m).gr = (σ.x.mp m).iss → (σ.x.mp m).rt < (σ.x.mp m).iss → ((tickF p σ).1.x.mp m).rt = (σ.x.mp m).rt + 1) := by
  have T := tickTF h p
  obtain ⟨_, emp, _⟩ := handN_all ((tick2 p σ).1.x, (tick2 p σ).2) 3
  have h3 := emp m
  rw [if_pos hm] at h3
  have h2 := T.mp2 hm
  have h3' : (tickF p σ).1.x.mp m = if hands (tick2 p σ).1.x m = true then { (tick2 p σ).1.x.mp m with tk := false, rt := ((tick2 p σ).1.x.mp m).rt + 1 } else { (tick2 p σ).1.x.mp m with tk := false } := h3
  refine ⟨?_, ?_, fun hnf hg hlt => ?_⟩
  · rw [h3']; split
    · exact h2.1
    · exact h2.1
  · rw [h3']; split
    · show _ ≤ ((tick2 p σ).1.x.mp m).rt + 1; omega
    · show _ ≤ ((tick2 p σ).1.x.mp m).rt; omega
  · have hc := h.cnt m hm
    have hl : LandOK (slq σ.x m (σ.x.mp m).rt) B m (σ.x.mp m).rt := by
      rcases J.key m hm (σ.x.mp m).rt (by omega) (by omega) with ⟨τ, h7, hs⟩ | hl
      · exact absurd hs.1 (hnf τ h7)
      · exact hl
    have hs : slq (tick2 p σ).1.x m (σ.x.mp m).rt = slq σ.x m (σ.x.mp m).rt := by
      rw [T.sl12 hm (by omega) (by omega), T.sl01 hm (by omega) (by omega) (fun τ h7 hs => hnf τ h7 hs.1)]
    have hh : hands (tick2 p σ).1.x m = true := by
      unfold hands
      rw [h2.1, h2.2.1]
      have e1 : ((σ.x.mp m).rt == (σ.x.mp m).iss) = false := by simp; omega
      have e2 : (((tick2 p σ).1.x.mp m).sl ((σ.x.mp m).rt % 4).toNat).ph = 2 := by
        have := hl.1; rw [← hs] at this; exact this
      rw [e1, e2]; rfl
    rw [h3', if_pos hh]
    show ((tick2 p σ).1.x.mp m).rt + 1 = _
    rw [h2.2.1]
end Go.Proofs.Qxb6500750aDoor
