import Derived.Test.Qxb6500750aDoorJnt3
namespace Go.Proofs.Qxb6500750aDoor
open Go.RowKit
/-! ### A whole tick -/
theorem collect_six (c : SS × RepD) : ((collectT 6 c).1.x.tp 6).busy = false := by
  unfold collectT
  by_cases hb : (c.1.x.tp 6).busy = false
  · rw [if_pos hb]; exact hb
  rw [if_neg hb, if_neg (by omega)]
  by_cases ho : (c.1.x.tp 6).orph = true
  · rw [if_pos ho]; show ((c.1.x.setT 6 _).tp 6).busy = false; rw [setT_tp]
  rw [if_neg ho, if_neg]
  · simp only []
    unfold setSlot
    rw [setT_tp]
  · unfold again pC mayRep; simp
theorem tickTF {N : Int} {A : Nat} {σ : SS} (h : XInv N A σ) (p : Int) : TF N p σ (tick1 σ).1 (tick2 p σ).1 (tick1 σ).2 (tickF p σ).2 := by
  have h1 : XInv N (A + 7) (tick1 σ).1 := h.collectN rep0 7 (Nat.le_refl _)
  have hA := arbI h1 p (tick1 σ).2 7 (Nat.le_refl _)
  have h2 := (h1.arbN p (tick1 σ).2 7 (Nat.le_refl _)).1
  obtain ⟨⟨_, e2, e3, e4⟩, _, _⟩ := handN_all ((tick2 p σ).1.x, (tick2 p σ).2) 3
  refine ⟨⟨A, h⟩, ⟨_, h1⟩, ⟨_, h2⟩, colI h rep0 (fun _ => ⟨rfl, rfl⟩) 7 (Nat.le_refl _), ⟨(tick2 p σ).2, hA, e2, e3.trans hA.rs, e4.trans hA.rp⟩, ?_⟩
  exact collect_six _
section
variable {N p : Int} {σ σ1 σ2 : SS} {ρ1 ρ : RepD}
theorem TF.keep1 (T : TF N p σ σ1 σ2 ρ1 ρ) {m : Nat} (hm : m < 3) {q : Int} (h1 : (σ.x.mp m).rt ≤ q) (h2 : q < (σ.x.mp m).iss) : (slq σ1.x m q).req = (slq σ.x m q).req ∧ (slq σ1.x m q).ret.va = (slq σ.x m q).ret.va ∧ (slq σ1.x m q).ret.sq = (slq σ.x m q).ret.sq := by
  by_cases hs : ∃ τ, τ < 7 ∧ serves σ.x τ m q
  · obtain ⟨τ, h7, hf, hmo, hsq⟩ := hs
    obtain ⟨r1, r2, r3⟩ := T.row1 τ
    have e0 : slotOf σ.x τ = slq σ.x m q := by rw [slotOf_slq, hmo, hsq]
    have e1 : slotOf σ1.x τ = slq σ1.x m q := by rw [slotOf_slq, r1, r2, hmo, hsq]
    rw [← e0, ← e1]
    rcases T.outC h7 with ⟨hn, _⟩ | ⟨_, _, _, _, _, _, hs⟩ | ⟨_, _, _, _, _, _, hs, _⟩ | ⟨_, _, _, _, st, da, ca, hs, _⟩
    · exact absurd hf hn
    · rw [hs]; exact ⟨rfl, rfl, rfl⟩
    · rw [hs]; exact ⟨rfl, rfl, rfl⟩
    · rw [hs]; exact ⟨rfl, rfl, rfl⟩
  · rw [T.sl01 hm h1 h2 (fun τ h7 h => hs ⟨τ, h7, h⟩)]; exact ⟨rfl, rfl, rfl⟩
/-- Arbitrate turns no slot but for its phase. -/
theorem TF.keep2 (T : TF N p σ σ1 σ2 ρ1 ρ) {m : Nat} (hm : m < 3) (q : Int) : (slq σ2.x m q).req = (slq σ1.x m q).req ∧ (slq σ2.x m q).ret = (slq σ1.x m q).ret := by
  obtain ⟨ρ2, hAI, _⟩ := T.arb
  rcases hAI.mp m hm with ⟨h, _⟩ | ⟨h, _⟩
  · unfold slq; rw [h]; exact ⟨rfl, rfl⟩
  · unfold slq
    rw [h]
    unfold gMP
    simp only []
    by_cases e : (q % 4).toNat = ((σ1.x.mp m).gr % 4).toNat
    · rw [e, upd_same]; exact ⟨rfl, rfl⟩
    · rw [upd_ne _ _ _ _ e]; exact ⟨rfl, rfl⟩
theorem TF.mp2 (T : TF N p σ σ1 σ2 ρ1 ρ) {m : Nat} (hm : m < 3) : (σ2.x.mp m).iss = (σ.x.mp m).iss ∧ (σ2.x.mp m).rt = (σ.x.mp m).rt ∧ (σ2.x.mp m).iso = (σ.x.mp m).iso ∧ (σ.x.mp m).gr ≤ (σ2.x.mp m).gr ∧ ((σ.x.mp m).gr = (σ.x.mp m).iss → (σ2.x.mp m).gr = (σ.x.mp m).gr) := by
  obtain ⟨ρ2, hAI, _⟩ := T.arb
  obtain ⟨y1, y2, y3, y4, y5⟩ := T.col.mp m
  simp only [] at y1 y2 y3 y4 y5
  rcases hAI.mp m hm with ⟨h, _⟩ | ⟨h, t, ht, hg, _⟩
  · rw [h]; exact ⟨y1, y3, y5, by omega, fun _ => y2⟩
  · have hne : (σ1.x.mp m).gr ≠ (σ1.x.mp m).iss := by
      rcases hAI.near t ht with ⟨e, _⟩ | ⟨m', h3, e, _, _, _, h5, _⟩
      · rw [e] at hg; omega
      · rw [e] at hg
        have : m' = m := by omega
        subst this; exact h5
    rw [h]
    refine ⟨y1, y3, y5, ?_, fun e => ?_⟩
    · show _ ≤ (σ1.x.mp m).gr + 1; omega
    · rw [y1, y2] at hne; exact absurd e hne
theorem TF.tp2 (T : TF N p σ σ1 σ2 ρ1 ρ) {t : Nat} (ht : t < 7) : (σ2.x.tp t).iso = (σ.x.tp t).iso := by
  obtain ⟨_, _, _, y4⟩ := T.col.row t
  rcases T.outA ht with ⟨_, hr, _⟩ | ⟨m, _, _, _, _, _, _, hr, _⟩
  · rw [hr]; exact y4
  · rw [hr]; exact y4
end
theorem JI.of_tick {N : Int} {A : Nat} {σ : SS} (h : XInv N A σ) (p : Int) {B0 B : BK} {acc : Nat → List Req} (J0 : JI σ B0 acc) (J : J2 (tick2 p σ).1 (tickF p σ).2 B0.a 3 B) : JI (tickF p σ).1 B acc := by
  have T := tickTF h p
  obtain ⟨A2, hi2⟩ := T.inv2
  obtain ⟨⟨etp, _, _, _⟩, emp, _⟩ := handN_all ((tick2 p σ).1.x, (tick2 p σ).2) 3
  have hmp : ∀ m, m < 3 → (tickF p σ).1.x.mp m = if hands (tick2 p σ).1.x m = true then { (tick2 p σ).1.x.mp m with tk := false, rt := ((tick2 p σ).1.x.mp m).rt + 1 } else { (tick2 p σ).1.x.mp m with tk := false } := fun m hm => by
    have := emp m; rw [if_pos hm] at this; exact this
  have htp : (tickF p σ).1.x.tp = (tick2 p σ).1.x.tp := etp
  have hpp : (tickF p σ).1.p = (tick2 p σ).1.p := rfl
  generalize (tick2 p σ).1 = σ2 at *
  generalize (tickF p σ).1 = σ3 at *
  have f1 : ∀ m, m < 3 → (σ3.x.mp m).iss = (σ2.x.mp m).iss ∧ (σ3.x.mp m).gr = (σ2.x.mp m).gr ∧ (σ3.x.mp m).iso = (σ2.x.mp m).iso ∧ (σ3.x.mp m).tk = false ∧ (σ3.x.mp m).sl = (σ2.x.mp m).sl ∧ (σ3.x.mp m).rt = (if hands σ2.x m = true then (σ2.x.mp m).rt + 1 else (σ2.x.mp m).rt) := fun m hm => by
    rw [hmp m hm]
    by_cases e : hands σ2.x m = true
    · rw [if_pos e, if_pos e]; exact ⟨rfl, rfl, rfl, rfl, rfl, rfl⟩
    · rw [if_neg e, if_neg e]; exact ⟨rfl, rfl, rfl, rfl, rfl, rfl⟩
  have hsl : ∀ m, m < 3 → ∀ q, slq σ3.x m q = slq σ2.x m q := fun m hm q => by unfold slq; rw [(f1 m hm).2.2.2.2.1]
  have hrt : ∀ m, m < 3 → B.a.rt m = (σ3.x.mp m).rt := fun m hm => by
    rw [J.rt m hm, (f1 m hm).2.2.2.2.2]
    by_cases e : hands σ2.x m = true
    · rw [if_pos ⟨hm, e⟩, if_pos e]
    · rw [if_neg (fun h => e h.2), if_neg e]
  have hle : ∀ m, m < 3 → (σ.x.mp m).rt ≤ (σ3.x.mp m).rt := fun m hm => by
    rw [(f1 m hm).2.2.2.2.2, (T.mp2 hm).2.1]; split <;> omega
  obtain ⟨s1, s2, s3, s4, s5⟩ := J.sm
  have hmo : ∀ t, mo σ3.x t = mo σ2.x t := fun t => by unfold mo; rw [htp]
  have hfl : ∀ t, flying σ3.x t ↔ flying σ2.x t := fun t => by unfold flying; rw [htp]
  refine ⟨J.on, fun m hm => ?_, fun m hm => ?_, hrt, fun m hm => ?_, fun m hm => ?_, fun t ht => ?_, fun t ht => ?_, fun m hm hiso => ?_, fun m hm q h1 h2 => ?_, fun m hm q h1 h2 => ?_, fun m hm q h1 h2 => ?_, fun t ht hf => ?_, fun m hm q h1 h2 => ?_, fun m q b hg => ?_, J.inj, J.fls⟩
  · rw [(f1 m hm).1, (T.mp2 hm).1]; exact J0.iss m hm
  · rw [(f1 m hm).2.1]; exact J.gr m hm
  · rw [(f1 m hm).2.2.2.1]; exact J.tk m hm hm
  · rw [(f1 m hm).2.2.1, (T.mp2 hm).2.2.1, s3]; exact J0.ba m hm
  · rw [htp]; exact J.turn t ht
  · rw [htp, T.tp2 ht, s4]; exact J0.cut t ht
  · rw [(f1 m hm).2.2.1, (T.mp2 hm).2.2.1] at hiso
    have := J0.isoW m hm hiso
    rw [(f1 m hm).1, (f1 m hm).2.1, (T.mp2 hm).1, (T.mp2 hm).2.2.2.2 this]; exact this
  · have := hle m hm
    rw [(f1 m hm).1, (T.mp2 hm).1] at h2
    rw [hsl m hm, (T.keep2 hm _).1, (T.keep1 hm (by omega) h2).1]
    exact J0.req m hm q (by omega) h2
  · have := hle m hm
    rw [(f1 m hm).1, (T.mp2 hm).1] at h2
    rw [hsl m hm, (T.keep2 hm q).2, (T.keep1 hm (by omega) h2).2.1, (T.keep1 hm (by omega) h2).2.2]
    exact J0.rv m hm q (by omega) h2
  · rw [(f1 m hm).2.1] at h1
    rw [(f1 m hm).1, (T.mp2 hm).1] at h2
    have hg := (T.mp2 hm).2.2.2.1
    have hc := h.cnt m hm
    have e : slq (tick1 σ).1.x m q = slq σ.x m q := T.sl01 hm (by omega) h2 (fun τ hτ hs => by
      obtain ⟨_, g2, _⟩ := h.fly τ hτ hs.1
      rw [hs.2.1, hs.2.2] at g2; omega)
    rw [hsl m hm, (T.keep2 hm q).2, e]
    exact J0.wt m hm q (by omega) h2
  · have ha := J.air t ht ((hfl t).1 hf)
    refine ha.keep (by rw [htp]) (by rw [htp]) ?_ (fun _ => by rw [hpp]) rfl (fun _ _ _ h => h) (fun _ h => h)
    rw [slotOf_slq, slotOf_slq, hmo, htp]
    exact hsl _ (mo_lt hi2 ht) _
  · rw [← hrt m hm] at h1
    rw [(f1 m hm).2.1] at h2
    rw [hsl m hm]
    rcases J.key m hm q h1 h2 with ⟨τ, h7, hs⟩ | hl
    · refine .inl ⟨τ, h7, (hfl τ).2 hs.1, (hmo τ).trans hs.2.1, by rw [htp]; exact hs.2.2⟩
    · exact .inr hl
  · obtain ⟨mn, k1, k2, k3, k4⟩ := J.dom m q b hg
    exact ⟨mn, k1, k2, by rw [← hrt mn k1]; exact k3, by rw [(f1 mn k1).2.1]; exact k4⟩
theorem tick_ret {N : Int} {A : Nat} {σ : SS} (h : XInv N A σ) (p : Int) : ∀ m, m < 3 → (tickF p σ).2.r m = if hands (tick2 p σ).1.x m = true then (slq (tick2 p σ).1.x m ((tick2 p σ).1.x.mp m).rt).ret else ret0 := fun m hm => by
  obtain ⟨_, _, er⟩ := handN_all ((tick2 p σ).1.x, (tick2 p σ).2) 3
  have := er m
  have h1 : XInv N (A + 7) (tick1 σ).1 := h.collectN rep0 7 (Nat.le_refl _)
  have e0 : (tick2 p σ).2.r m = ret0 := by
    rw [show (tick2 p σ).2.r = (tick1 σ).2.r from (arbI h1 p (tick1 σ).2 7 (Nat.le_refl _)).r]
    rw [show (tick1 σ).2.r = rep0.r from (colI h rep0 (fun _ => ⟨rfl, rfl⟩) 7 (Nat.le_refl _)).r]
    rfl
  show (handN 3 ((tick2 p σ).1.x, (tick2 p σ).2)).2.r m = _
  rw [this]
  by_cases e : hands (tick2 p σ).1.x m = true
  · rw [if_pos ⟨hm, e⟩, if_pos e]
  · rw [if_neg (fun h => e h.2), if_neg e]; exact e0
end Go.Proofs.Qxb6500750aDoor
