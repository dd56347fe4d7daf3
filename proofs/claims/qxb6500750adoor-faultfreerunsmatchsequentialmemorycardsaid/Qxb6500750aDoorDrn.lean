import Derived.Test.Qxb6500750aDoorJnt6
namespace Go.Proofs.Qxb6500750aDoor
open Go.RowKit
/-! ### The drain: what is left to do falls with every tick -/
/-- The link behind a round of collect. -/
def OutW (r : TP) (q q' : PS) (rs : Bool) : Prop := r.busy = true → (rs = true → q'.wt = 0) ∧ (rs = false → q'.wt = tickW q)
theorem collectT_wt (t : Nat) (ht : t < 6) (c : SS × RepD) (hb : (c.1.x.tp t).busy = (c.1.p t).busy) (h1 : c.2.rs t = false) : OutW (c.1.x.tp t) (c.1.p t) ((collectT t c).1.p t) ((collectT t c).2.rs t) := by
  intro hbz
  have hpb : (c.1.p t).busy = true := by rw [← hb]; exact hbz
  have htw : ((ticked c.1 t).p t).wt = tickW (c.1.p t) := by
    rw [ticked_p, if_pos ⟨rfl, ht⟩]
    unfold tickP; rw [hpb]; rfl
  unfold collectT
  rw [if_neg (by rw [hbz]; decide)]
  by_cases hw : t < 6 ∧ tickEnds (c.1.p t) = false
  · rw [if_pos hw]; exact ⟨(fun h => by rw [h1] at h; cases h), fun _ => htw⟩
  rw [if_neg hw]
  by_cases ho : (c.1.x.tp t).orph = true
  · rw [if_pos ho]; exact ⟨(fun h => by rw [h1] at h; cases h), fun _ => htw⟩
  rw [if_neg ho]
  by_cases ha : again c.1.x t (pC t (c.1.p t)) = true
  · rw [if_pos ha]
    refine ⟨fun _ => ?_, fun h => ?_⟩
    · show ((sent { ticked c.1 t with x := retried c.1.x t } t).p t).wt = 0
      rw [sent_p, if_pos ⟨rfl, ht⟩]; rfl
    · exfalso
      have h : upd c.2.rs t true t = false := h
      rw [upd_same] at h; cases h
  · rw [if_neg ha]
    by_cases h3 : pS t (c.1.p t) = 3
    · simp only [if_pos h3]; exact ⟨(fun h => by rw [h1] at h; cases h), fun _ => htw⟩
    · simp only [if_neg h3]; exact ⟨(fun h => by rw [h1] at h; cases h), fun _ => htw⟩
theorem colW {N : Int} {A : Nat} {σ : SS} (h : XInv N A σ) (ρ : RepD) (hρ : ∀ τ, ρ.rs τ = false ∧ ρ.rp τ = false) : ∀ n, n ≤ 7 → ∀ τ, τ < n → τ < 6 → OutW (σ.x.tp τ) (σ.p τ) ((collectN n (σ, ρ)).1.p τ) ((collectN n (σ, ρ)).2.rs τ)
  | 0, _ => fun τ hτ => absurd hτ (by omega)
  | n + 1, hn => fun τ hτ h6 => by
    have ih := colW h ρ hρ n (by omega)
    have hc := colI h ρ hρ n (by omega)
    have hi := h.collectN ρ n (by omega)
    obtain ⟨b1, _⟩ := collectT_else n (collectN n (σ, ρ))
    show OutW _ _ ((collectT n (collectN n (σ, ρ))).1.p τ) ((collectT n (collectN n (σ, ρ))).2.rs τ)
    by_cases e : τ = n
    · subst e
      obtain ⟨f1, f2, f3, f4⟩ := hc.far τ (Nat.le_refl _)
      have := collectT_wt τ h6 (collectN τ (σ, ρ)) (hi.busy τ h6) (by rw [f3]; exact (hρ τ).1)
      rw [f1, f2] at this; exact this
    · obtain ⟨_, x2, x3, _⟩ := b1 τ e
      rw [x2, x3]; exact ih τ (by omega) h6
/-- What a target has yet to do. -/
def fcost (x : XS) (p : Nat → PS) (t : Nat) : Int := if (x.tp t).busy = true ∧ (x.tp t).orph = false then (if t < 6 then (3 - (slotOf x t).ret.re) * 64 + (64 - (p t).wt) else 1) else 0
def phi (σ : SS) : Int := 256 * (((σ.x.mp 0).iss - (σ.x.mp 0).gr) + ((σ.x.mp 1).iss - (σ.x.mp 1).gr) + ((σ.x.mp 2).iss - (σ.x.mp 2).gr)) +
  (fcost σ.x σ.p 0 + fcost σ.x σ.p 1 + fcost σ.x σ.p 2 + fcost σ.x σ.p 3 + fcost σ.x σ.p 4 + fcost σ.x σ.p 5 + fcost σ.x σ.p 6)
def ind (b : Bool) : Int := if b then 1 else 0
theorem count_one (g : Nat → Int) (m : Nat) (D : Int) (h : (D = 0 ∧ ∀ t, t < 7 → g t ≠ (m : Nat)) ∨ (D = 1 ∧ ∃ t, t < 7 ∧ g t = (m : Nat) ∧ ∀ t', t' < 7 → g t' = (m : Nat) → t' = t)) :
    ind (g 0 == (m : Nat)) + ind (g 1 == (m : Nat)) + ind (g 2 == (m : Nat)) + ind (g 3 == (m : Nat)) + ind (g 4 == (m : Nat)) + ind (g 5 == (m : Nat)) + ind (g 6 == (m : Nat)) ≤ D := by
  have no : ∀ t, g t ≠ (m : Nat) → ind (g t == (m : Nat)) = 0 := fun t h => by
    have : (g t == ((m : Nat) : Int)) = false := by simpa using h
    rw [this]; rfl
  have le : ∀ t, ind (g t == (m : Nat)) ≤ 1 := fun t => by unfold ind; split <;> omega
  rcases h with ⟨rfl, h⟩ | ⟨rfl, t, ht, _, hu⟩
  · rw [no 0 (h 0 (by omega)), no 1 (h 1 (by omega)), no 2 (h 2 (by omega)), no 3 (h 3 (by omega)), no 4 (h 4 (by omega)), no 5 (h 5 (by omega)), no 6 (h 6 (by omega))]; decide
  · have z : ∀ t', t' < 7 → t' ≠ t → ind (g t' == (m : Nat)) = 0 := fun t' h1 h2 => no t' (fun e => h2 (hu t' h1 e))
    have l := le t
    have ht' : t = 0 ∨ t = 1 ∨ t = 2 ∨ t = 3 ∨ t = 4 ∨ t = 5 ∨ t = 6 := by omega
    rcases ht' with rfl | rfl | rfl | rfl | rfl | rfl | rfl
    · rw [z 1 (by omega) (by omega), z 2 (by omega) (by omega), z 3 (by omega) (by omega), z 4 (by omega) (by omega), z 5 (by omega) (by omega), z 6 (by omega) (by omega)]; omega
    · rw [z 0 (by omega) (by omega), z 2 (by omega) (by omega), z 3 (by omega) (by omega), z 4 (by omega) (by omega), z 5 (by omega) (by omega), z 6 (by omega) (by omega)]; omega
    · rw [z 0 (by omega) (by omega), z 1 (by omega) (by omega), z 3 (by omega) (by omega), z 4 (by omega) (by omega), z 5 (by omega) (by omega), z 6 (by omega) (by omega)]; omega
    · rw [z 0 (by omega) (by omega), z 1 (by omega) (by omega), z 2 (by omega) (by omega), z 4 (by omega) (by omega), z 5 (by omega) (by omega), z 6 (by omega) (by omega)]; omega
    · rw [z 0 (by omega) (by omega), z 1 (by omega) (by omega), z 2 (by omega) (by omega), z 3 (by omega) (by omega), z 5 (by omega) (by omega), z 6 (by omega) (by omega)]; omega
    · rw [z 0 (by omega) (by omega), z 1 (by omega) (by omega), z 2 (by omega) (by omega), z 3 (by omega) (by omega), z 4 (by omega) (by omega), z 6 (by omega) (by omega)]; omega
    · rw [z 0 (by omega) (by omega), z 1 (by omega) (by omega), z 2 (by omega) (by omega), z 3 (by omega) (by omega), z 4 (by omega) (by omega), z 5 (by omega) (by omega)]; omega
theorem phi_tick {N : Int} {A : Nat} {σ : SS} (h : XInv N A σ) {B : BK} {acc : Nat → List Req} (J : JI σ B acc) (p : Int) :
    phi (tickF p σ).1 ≤ phi σ ∧ ((∃ t, t < 7 ∧ flying σ.x t) → phi (tickF p σ).1 ≤ phi σ - 1) := by
  have T := tickTF h p
  obtain ⟨A2, hi2⟩ := T.inv2
  obtain ⟨A1, hi1⟩ := T.inv1
  have hW : ∀ τ, τ < 6 → OutW (σ.x.tp τ) (σ.p τ) ((tick1 σ).1.p τ) ((tickF p σ).2.rs τ) := fun τ h6 => by
    obtain ⟨ρ2, _, _, e, _⟩ := T.arb
    rw [e]; exact colW h rep0 (fun _ => ⟨rfl, rfl⟩) 7 (Nat.le_refl _) τ (by omega) h6
  obtain ⟨⟨etp, _, _, _⟩, emp, _⟩ := handN_all ((tick2 p σ).1.x, (tick2 p σ).2) 3
  have hphi : phi (tickF p σ).1 = phi (tick2 p σ).1 := by
    have h3 : ∀ m, m < 3 → ((tickF p σ).1.x.mp m).iss = ((tick2 p σ).1.x.mp m).iss ∧ ((tickF p σ).1.x.mp m).gr = ((tick2 p σ).1.x.mp m).gr := fun m hm => by
      have := emp m
      rw [if_pos hm] at this
      show ((handN 3 ((tick2 p σ).1.x, (tick2 p σ).2)).1.mp m).iss = _ ∧ ((handN 3 ((tick2 p σ).1.x, (tick2 p σ).2)).1.mp m).gr = _
      rw [this]; split <;> exact ⟨rfl, rfl⟩
    have hsl : ∀ m, ((tickF p σ).1.x.mp m).sl = ((tick2 p σ).1.x.mp m).sl := fun m => by
      show ((handN 3 ((tick2 p σ).1.x, (tick2 p σ).2)).1.mp m).sl = _
      rw [emp m]; split
      · split <;> rfl
      · rfl
    have hf : ∀ t, fcost (tickF p σ).1.x (tickF p σ).1.p t = fcost (tick2 p σ).1.x (tick2 p σ).1.p t := fun t => by
      have e0 : (tickF p σ).1.x.tp = (tick2 p σ).1.x.tp := etp
      unfold fcost slotOf
      rw [e0, hsl]; rfl
    unfold phi
    rw [(h3 0 (by decide)).1, (h3 0 (by decide)).2, (h3 1 (by decide)).1, (h3 1 (by decide)).2, (h3 2 (by decide)).1, (h3 2 (by decide)).2, hf, hf, hf, hf, hf, hf, hf]
  rw [hphi]
  have hgi : ∀ t, t < 7 → ((tickF p σ).2.g t = -1 ∨ ∃ m : Nat, m < 3 ∧ (tickF p σ).2.g t = (m : Nat)) := fun t ht => by
    rcases T.outA ht with ⟨e, _⟩ | ⟨m, h3, e, _⟩
    · exact .inl e
    · exact .inr ⟨m, h3, e⟩
  have hmpD : ∀ m : Nat, m < 3 → (((tick2 p σ).1.x.mp m).gr - (σ.x.mp m).gr = 0 ∧ ∀ t, t < 7 → (tickF p σ).2.g t ≠ (m : Nat)) ∨ (((tick2 p σ).1.x.mp m).gr - (σ.x.mp m).gr = 1 ∧ ∃ t, t < 7 ∧ (tickF p σ).2.g t = (m : Nat) ∧ ∀ t', t' < 7 → (tickF p σ).2.g t' = (m : Nat) → t' = t) := fun m hm => by
    obtain ⟨ρ2, hAI, hge, _⟩ := T.arb
    obtain ⟨_, y2, _⟩ := T.col.mp m
    simp only [] at y2
    rw [hge]
    rcases hAI.mp m hm with ⟨e, hn⟩ | ⟨e, hx⟩
    · left; refine ⟨?_, hn⟩
      rw [show (tick2 p σ).1.x.mp m = (tick1 σ).1.x.mp m from e, y2]; omega
    · right; refine ⟨?_, hx⟩
      rw [show (tick2 p σ).1.x.mp m = gMP ((tick1 σ).1.x.mp m) from e]
      show ((tick1 σ).1.x.mp m).gr + 1 - _ = 1
      rw [y2]; omega
  have hiss : ∀ m, m < 3 → ((tick2 p σ).1.x.mp m).iss = (σ.x.mp m).iss := fun m hm => (T.mp2 hm).1
  have key : ∀ t, t < 7 → fcost (tick2 p σ).1.x (tick2 p σ).1.p t ≤ fcost σ.x σ.p t + 256 * ind (!((tickF p σ).2.g t == -1)) ∧ (flying σ.x t → fcost (tick2 p σ).1.x (tick2 p σ).1.p t ≤ fcost σ.x σ.p t - 1 + 256 * ind (!((tickF p σ).2.g t == -1))) := fun t ht => by
    have hAo := T.outA ht
    -- behind a grant
    have hgr : ∀ m : Nat, (tickF p σ).2.g t = (m : Nat) → fcost (tick2 p σ).1.x (tick2 p σ).1.p t ≤ 256 ∧ ind (!((tickF p σ).2.g t == -1)) = 1 := fun m hg => by
      constructor
      · rcases hAo with ⟨e, _⟩ | ⟨m', h3, e, hb, _, _, hne, hr, _⟩
        · rw [e] at hg; omega
        · obtain ⟨_, y2, _⟩ := T.col.mp m'
          obtain ⟨y1, _⟩ := T.col.mp m'
          simp only [] at y1 y2
          have hc := h.cnt m' h3
          have hlt : (σ.x.mp m').gr < (σ.x.mp m').iss := by rw [y1, y2] at hne; omega
          have hre : (slotOf (tick2 p σ).1.x t).ret.re = 0 := by
            have e1 : slotOf (tick2 p σ).1.x t = slq (tick2 p σ).1.x m' (σ.x.mp m').gr := by
              unfold slotOf slq
              rw [hr]
              simp only [Int.toNat_natCast]
              rw [y2]
            rw [e1, (T.keep2 h3 _).2]
            have e2 := T.sl01 h3 (q := (σ.x.mp m').gr) (by omega) hlt (fun τ hτ hs => by
              obtain ⟨_, g2, _⟩ := h.fly τ hτ hs.1
              rw [hs.2.1, hs.2.2] at g2; omega)
            rw [e2]; exact (J.wt m' h3 _ (by omega) hlt).2.1
          unfold fcost
          split
          · rename_i hfb
            split
            · rename_i h6
              obtain ⟨w0, _⟩ := (hi2.port t h6).pend ((hi2.busy t h6).symm.trans hfb.1)
              rw [hre]; omega
            · omega
          · omega
      · have : ((tickF p σ).2.g t == -1) = false := by rw [hg]; simp
        rw [this]; rfl
    have hnog : (tickF p σ).2.g t = -1 → ind (!((tickF p σ).2.g t == -1)) = 0 := fun e => by rw [e]; rfl
    have hind : 0 ≤ ind (!((tickF p σ).2.g t == -1)) := by unfold ind; split <;> omega
    -- the cost of a flight
    have hpos : flying σ.x t → 1 ≤ fcost σ.x σ.p t := fun hf => by
      unfold fcost
      rw [if_pos (show (σ.x.tp t).busy = true ∧ (σ.x.tp t).orph = false from hf)]
      split
      · rename_i h6
        obtain ⟨_, w1, _⟩ := (h.port t h6).pend ((h.busy t h6).symm.trans hf.1)
        obtain ⟨b, f, _, _, _, F⟩ := J.air t ht hf
        have := F.en; have := F.n4
        omega
      · omega
    rcases T.outC ht with ⟨hnf, _, _, _, hnf1⟩ | ⟨hf, h6, hrs, _, _, hr, hs⟩ | ⟨hf, h6, hrs, _, hr, _, hs, _⟩ | ⟨hf, _, hr, _⟩
    · have h0 : fcost σ.x σ.p t = 0 := if_neg hnf
      refine ⟨?_, fun hf => absurd hf hnf⟩
      rcases hgi t ht with e | ⟨m, _, e⟩
      · have h2 : fcost (tick2 p σ).1.x (tick2 p σ).1.p t = 0 := by
          rcases hAo with ⟨_, hr2, _⟩ | ⟨m', _, e', _⟩
          · unfold fcost; rw [hr2]; exact if_neg hnf1
          · rw [e'] at e; omega
        omega
      · obtain ⟨k1, k2⟩ := hgr m e
        omega
    · have hq2 : (tick2 p σ).1.x.tp t = (tick1 σ).1.x.tp t ∧ (tick2 p σ).1.p t = (tick1 σ).1.p t := by
        rcases hAo with ⟨_, e1, e2, _⟩ | ⟨_, _, _, hb, _⟩
        · exact ⟨e1, e2⟩
        · rw [hr, hf.1] at hb; cases hb
      have hm3 := mo_lt h ht
      obtain ⟨g1, g2, _⟩ := h.fly t ht hf
      have hs2 : slotOf (tick2 p σ).1.x t = slotOf σ.x t := by
        rw [← hs, slotOf_slq, slotOf_slq]
        have em : mo (tick2 p σ).1.x t = mo σ.x t := by unfold mo; rw [hq2.1, hr]
        have em1 : mo (tick1 σ).1.x t = mo σ.x t := by unfold mo; rw [hr]
        rw [em, em1, hq2.1, hr]
        exact T.sl12 hm3 g1 g2
      obtain ⟨w0, w1, _⟩ := (h.port t h6).pend ((h.busy t h6).symm.trans hf.1)
      have hwt : ((tick1 σ).1.p t).wt = (σ.p t).wt + 1 := by
        rw [(hW t h6 hf.1).2 hrs]; unfold tickW; omega
      have hA1 : fcost σ.x σ.p t = (3 - (slotOf σ.x t).ret.re) * 64 + (64 - (σ.p t).wt) := by unfold fcost; rw [if_pos hf, if_pos h6]
      have hA2 : fcost (tick2 p σ).1.x (tick2 p σ).1.p t = (3 - (slotOf σ.x t).ret.re) * 64 + (64 - ((σ.p t).wt + 1)) := by
        unfold fcost; rw [hq2.1, hr, if_pos hf, if_pos h6, hs2, hq2.2, hwt]
      refine ⟨?_, fun _ => ?_⟩ <;> omega
    · have hf1 : ((tick1 σ).1.x.tp t).busy = true := by rw [hr]; exact hf.1
      have hq2 : (tick2 p σ).1.x.tp t = (tick1 σ).1.x.tp t ∧ (tick2 p σ).1.p t = (tick1 σ).1.p t := by
        rcases hAo with ⟨_, e1, e2, _⟩ | ⟨_, _, _, hb, _⟩
        · exact ⟨e1, e2⟩
        · rw [hf1] at hb; cases hb
      have hm3 := mo_lt h ht
      obtain ⟨g1, g2, _⟩ := h.fly t ht hf
      have hs2 : slotOf (tick2 p σ).1.x t = slotOf (tick1 σ).1.x t := by
        rw [slotOf_slq, slotOf_slq]
        have em : mo (tick2 p σ).1.x t = mo σ.x t := by unfold mo; rw [hq2.1, hr]
        have em1 : mo (tick1 σ).1.x t = mo σ.x t := by unfold mo; rw [hr]
        rw [em, em1, hq2.1, hr]
        exact T.sl12 hm3 g1 g2
      obtain ⟨w0, w1, _⟩ := (h.port t h6).pend ((h.busy t h6).symm.trans hf.1)
      have hwt : ((tick1 σ).1.p t).wt = 0 := (hW t h6 hf.1).1 hrs
      have hA1 : fcost σ.x σ.p t = (3 - (slotOf σ.x t).ret.re) * 64 + (64 - (σ.p t).wt) := by unfold fcost; rw [if_pos hf, if_pos h6]
      have hA2 : fcost (tick2 p σ).1.x (tick2 p σ).1.p t = (3 - ((slotOf σ.x t).ret.re + 1)) * 64 + (64 - 0) := by
        unfold fcost; rw [hq2.1, hr, if_pos hf, if_pos h6, hs2, hs, hq2.2, hwt]
      refine ⟨?_, fun _ => ?_⟩ <;> omega
    · have h1 := hpos hf
      rcases hgi t ht with e | ⟨m, _, e⟩
      · have h2 : fcost (tick2 p σ).1.x (tick2 p σ).1.p t = 0 := by
          rcases hAo with ⟨_, hr2, _⟩ | ⟨m', _, e', _⟩
          · unfold fcost; rw [hr2, hr]; exact if_neg (fun hh => by cases hh.1)
          · rw [e'] at e; omega
        refine ⟨?_, fun _ => ?_⟩ <;> omega
      · obtain ⟨k1, k2⟩ := hgr m e
        refine ⟨?_, fun _ => ?_⟩ <;> omega
  -- the count of grants
  have hind : ∀ t, t < 7 → ind (!((tickF p σ).2.g t == -1)) = ind ((tickF p σ).2.g t == ((0 : Nat) : Int)) + ind ((tickF p σ).2.g t == ((1 : Nat) : Int)) + ind ((tickF p σ).2.g t == ((2 : Nat) : Int)) := fun t ht => by
    rcases hgi t ht with e | ⟨m, hm, e⟩
    · rw [e]; rfl
    · rw [e]
      have hm' : m = 0 ∨ m = 1 ∨ m = 2 := by omega
      rcases hm' with rfl | rfl | rfl <;> rfl
  have d0 := count_one (tickF p σ).2.g 0 _ (hmpD 0 (by decide))
  have d1 := count_one (tickF p σ).2.g 1 _ (hmpD 1 (by decide))
  have d2 := count_one (tickF p σ).2.g 2 _ (hmpD 2 (by decide))
  have k0 := key 0 (by decide); have k1 := key 1 (by decide); have k2 := key 2 (by decide); have k3 := key 3 (by decide); have k4 := key 4 (by decide); have k5 := key 5 (by decide); have k6 := key 6 (by decide)
  rw [hind 0 (by decide)] at k0; rw [hind 1 (by decide)] at k1; rw [hind 2 (by decide)] at k2; rw [hind 3 (by decide)] at k3; rw [hind 4 (by decide)] at k4; rw [hind 5 (by decide)] at k5; rw [hind 6 (by decide)] at k6
  unfold phi
  rw [hiss 0 (by decide), hiss 1 (by decide), hiss 2 (by decide)]
  refine ⟨by omega, ?_⟩
  rintro ⟨t, ht, hf⟩
  have ht' : t = 0 ∨ t = 1 ∨ t = 2 ∨ t = 3 ∨ t = 4 ∨ t = 5 ∨ t = 6 := by omega
  rcases ht' with rfl | rfl | rfl | rfl | rfl | rfl | rfl
  · have := k0.2 hf; omega
  · have := k1.2 hf; omega
  · have := k2.2 hf; omega
  · have := k3.2 hf; omega
  · have := k4.2 hf; omega
  · have := k5.2 hf; omega
  · have := k6.2 hf; omega
end Go.Proofs.Qxb6500750aDoor
