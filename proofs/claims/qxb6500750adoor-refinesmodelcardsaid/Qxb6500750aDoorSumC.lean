import Derived.Test.Qxb6500750aDoorXInv2
namespace Go.Proofs.Qxb6500750aDoor
open Go.RowKit
/-! ### What collect does, target by target -/
/-- Everything else that collectT t leaves alone. -/
theorem collectT_else (t : Nat) (c : SS × RepD) : (∀ τ, τ ≠ t → (collectT t c).1.x.tp τ = c.1.x.tp τ ∧ (collectT t c).1.p τ = c.1.p τ ∧ (collectT t c).2.rs τ = c.2.rs τ ∧ (collectT t c).2.rp τ = c.2.rp τ) ∧
    (∀ m s, ¬ (flying c.1.x t ∧ mo c.1.x t = m ∧ ((c.1.x.tp t).sq % 4).toNat = s) → ((collectT t c).1.x.mp m).sl s = (c.1.x.mp m).sl s) ∧
    (∀ m, ((collectT t c).1.x.mp m).iss = (c.1.x.mp m).iss ∧ ((collectT t c).1.x.mp m).gr = (c.1.x.mp m).gr ∧ ((collectT t c).1.x.mp m).rt = (c.1.x.mp m).rt ∧ ((collectT t c).1.x.mp m).tk = (c.1.x.mp m).tk ∧ ((collectT t c).1.x.mp m).iso = (c.1.x.mp m).iso) ∧
    (∀ τ, ((collectT t c).1.x.tp τ).m = (c.1.x.tp τ).m ∧ ((collectT t c).1.x.tp τ).sq = (c.1.x.tp τ).sq ∧ ((collectT t c).1.x.tp τ).turn = (c.1.x.tp τ).turn ∧ ((collectT t c).1.x.tp τ).iso = (c.1.x.tp τ).iso) ∧
    (collectT t c).2.g = c.2.g ∧ (collectT t c).2.r = c.2.r := by
  have hms : ∀ (x : XS) (m s m' : Nat) (a : Slot), ((x.setS m s a).mp m').iss = (x.mp m').iss ∧ ((x.setS m s a).mp m').gr = (x.mp m').gr ∧ ((x.setS m s a).mp m').rt = (x.mp m').rt ∧ ((x.setS m s a).mp m').tk = (x.mp m').tk ∧ ((x.setS m s a).mp m').iso = (x.mp m').iso := fun x m s m' a => by
    simp only [XS.setS, XS.setM, upd]; split <;> simp_all
  have htp : ∀ τ, τ ≠ t → (ticked c.1 t).p τ = c.1.p τ := fun τ e => by rw [ticked_p, if_neg (fun h => e h.1)]
  unfold collectT
  by_cases hb : (c.1.x.tp t).busy = false
  · rw [if_pos hb]; exact ⟨fun _ _ => ⟨rfl, rfl, rfl, rfl⟩, fun _ _ _ => rfl, fun _ => ⟨rfl, rfl, rfl, rfl, rfl⟩, fun _ => ⟨rfl, rfl, rfl, rfl⟩, rfl, rfl⟩
  rw [if_neg hb]
  have hb' : (c.1.x.tp t).busy = true := by simpa using hb
  by_cases hw : t < 6 ∧ tickEnds (c.1.p t) = false
  · rw [if_pos hw]
    have e0 := ticked_x c.1 t
    refine ⟨fun τ e => ⟨?_, htp τ e, rfl, rfl⟩, fun m s _ => ?_, fun m => ?_, fun τ => ?_, rfl, rfl⟩
    · show (ticked c.1 t).x.tp τ = _; rw [e0]
    · show ((ticked c.1 t).x.mp m).sl s = _; rw [e0]
    · show ((ticked c.1 t).x.mp m).iss = _ ∧ ((ticked c.1 t).x.mp m).gr = _ ∧ ((ticked c.1 t).x.mp m).rt = _ ∧ ((ticked c.1 t).x.mp m).tk = _ ∧ ((ticked c.1 t).x.mp m).iso = _
      rw [e0]; exact ⟨rfl, rfl, rfl, rfl, rfl⟩
    · show ((ticked c.1 t).x.tp τ).m = _ ∧ ((ticked c.1 t).x.tp τ).sq = _ ∧ ((ticked c.1 t).x.tp τ).turn = _ ∧ ((ticked c.1 t).x.tp τ).iso = _
      rw [e0]; exact ⟨rfl, rfl, rfl, rfl⟩
  rw [if_neg hw]
  by_cases ho : (c.1.x.tp t).orph = true
  · rw [if_pos ho]
    refine ⟨fun τ e => ⟨by simp only [setT_get, if_neg e], htp τ e, rfl, rfl⟩, fun _ _ _ => rfl, fun _ => ⟨rfl, rfl, rfl, rfl, rfl⟩, fun τ => ?_, rfl, rfl⟩
    simp only [setT_get]; split
    · rename_i e; subst e; exact ⟨rfl, rfl, rfl, rfl⟩
    · exact ⟨rfl, rfl, rfl, rfl⟩
  rw [if_neg ho]
  have hf : flying c.1.x t := ⟨hb', by simpa using ho⟩
  by_cases ha : again c.1.x t (pC t (c.1.p t)) = true
  · rw [if_pos ha]
    refine ⟨fun τ e => ⟨rfl, ?_, by simp only [upd, if_neg e], rfl⟩, fun m s hn => ?_, fun m => hms _ _ _ _ _, fun τ => ⟨rfl, rfl, rfl, rfl⟩, rfl, rfl⟩
    · show (sent { ticked c.1 t with x := retried c.1.x t } t).p τ = _
      rw [sent_p, if_neg (fun h => e h.1)]; exact htp τ e
    · show ((retried c.1.x t).mp m).sl s = _
      unfold retried setSlot
      rw [setS_get, if_neg]
      rintro ⟨e1, e2⟩
      exact hn ⟨hf, e1.symm, e2.symm⟩
  · rw [if_neg ha]
    have hx1 : ∀ x1 : XS, x1.mp = c.1.x.mp → x1.tp = c.1.x.tp → ∀ a : Slot,
        (∀ m s, ¬ (flying c.1.x t ∧ mo c.1.x t = m ∧ ((c.1.x.tp t).sq % 4).toNat = s) → (((setSlot x1 t a).setT t { c.1.x.tp t with busy := false }).mp m).sl s = (c.1.x.mp m).sl s) ∧
        (∀ m, (((setSlot x1 t a).setT t { c.1.x.tp t with busy := false }).mp m).iss = (c.1.x.mp m).iss ∧ (((setSlot x1 t a).setT t { c.1.x.tp t with busy := false }).mp m).gr = (c.1.x.mp m).gr ∧ (((setSlot x1 t a).setT t { c.1.x.tp t with busy := false }).mp m).rt = (c.1.x.mp m).rt ∧ (((setSlot x1 t a).setT t { c.1.x.tp t with busy := false }).mp m).tk = (c.1.x.mp m).tk ∧ (((setSlot x1 t a).setT t { c.1.x.tp t with busy := false }).mp m).iso = (c.1.x.mp m).iso) ∧
        (∀ τ, (((setSlot x1 t a).setT t { c.1.x.tp t with busy := false }).tp τ) = if τ = t then { c.1.x.tp t with busy := false } else c.1.x.tp τ) := fun x1 e1 e2 a => by
      refine ⟨fun m s hn => ?_, fun m => ?_, fun τ => ?_⟩
      · unfold setSlot
        rw [setT_mp, setS_get, if_neg, e1]
        rintro ⟨q1, q2⟩
        rw [e2] at q1 q2
        exact hn ⟨hf, q1.symm, q2.symm⟩
      · unfold setSlot
        rw [setT_mp]
        have := hms x1 (x1.tp t).m.toNat ((x1.tp t).sq % 4).toNat m a
        rw [e1] at this; exact this
      · unfold setSlot
        rw [setT_get, setS_tp, e2]
    have hrow : ∀ τ, (if τ = t then { c.1.x.tp t with busy := false } else c.1.x.tp τ).m = (c.1.x.tp τ).m ∧ (if τ = t then { c.1.x.tp t with busy := false } else c.1.x.tp τ).sq = (c.1.x.tp τ).sq ∧ (if τ = t then { c.1.x.tp t with busy := false } else c.1.x.tp τ).turn = (c.1.x.tp τ).turn ∧ (if τ = t then { c.1.x.tp t with busy := false } else c.1.x.tp τ).iso = (c.1.x.tp τ).iso := fun τ => by
      split
      · rename_i e; subst e; exact ⟨rfl, rfl, rfl, rfl⟩
      · exact ⟨rfl, rfl, rfl, rfl⟩
    by_cases h3 : pS t (c.1.p t) = 3
    · simp only [if_pos h3]
      obtain ⟨g1, g2, g3⟩ := hx1 (c.1.x.setP t (sat (c.1.x.sp t))) rfl rfl (landS (slotOf c.1.x t) (pS t (c.1.p t)) (pD t (c.1.p t)) (pC t (c.1.p t)))
      exact ⟨fun τ e => ⟨by rw [g3, if_neg e], htp τ e, trivial, by simp only [upd, if_neg e]⟩, g1, g2, fun τ => by rw [g3]; exact hrow τ, trivial, trivial⟩
    · simp only [if_neg h3]
      obtain ⟨g1, g2, g3⟩ := hx1 c.1.x rfl rfl (landS (slotOf c.1.x t) (pS t (c.1.p t)) (pD t (c.1.p t)) (pC t (c.1.p t)))
      exact ⟨fun τ e => ⟨by rw [g3, if_neg e], htp τ e, trivial, trivial⟩, g1, g2, fun τ => by rw [g3]; exact hrow τ, trivial, trivial⟩
/-- How a round of collect at target t may come out: the row, the link, the slot that is served, the master's isolation; then row, link, slot, and the two bits of the report. -/
def OutC (t : Nat) (r : TP) (q : PS) (s : Slot) (im : Bool) (r' : TP) (q' : PS) (s' : Slot) (rs rp : Bool) : Prop :=
  (¬ (r.busy = true ∧ r.orph = false) ∧ rs = false ∧ rp = false ∧ q'.atts = q.atts ∧ ¬ (r'.busy = true ∧ r'.orph = false)) ∨
  ((r.busy = true ∧ r.orph = false) ∧ t < 6 ∧ rs = false ∧ rp = false ∧ q'.atts = q.atts ∧ r' = r ∧ s' = s) ∨
  ((r.busy = true ∧ r.orph = false) ∧ t < 6 ∧ rs = true ∧ rp = false ∧ r' = r ∧ (∃ l, q.atts.getLast? = some l ∧ mayRep s.req.w (endP l.p) = true ∧ s.ret.re < 3 ∧ r.iso = false ∧ im = false) ∧
    s' = { s with ret := { s.ret with re := s.ret.re + 1 } } ∧ ∃ pl, planOK pl ∧ q'.atts = q.atts ++ [⟨⟨lid r.m r.sq, s.req.w, s.req.ad, s.req.da⟩, pl, actB pl.o⟩]) ∨
  ((r.busy = true ∧ r.orph = false) ∧ rs = false ∧ r' = { r with busy := false } ∧ q'.atts = q.atts ∧ ∃ st da ca, s' = landS s st da ca ∧ rp = (st == 3) ∧
    ((t < 6 ∧ (∃ l, q.atts.getLast? = some l ∧ ca = endP l.p) ∧ st = (if ca = 0 then 0 else if ca = 1 then 1 else 3) ∧ ¬ (mayRep s.req.w ca = true ∧ s.ret.re < 3 ∧ r.iso = false ∧ im = false)) ∨ (¬ t < 6 ∧ st = 2 ∧ ca = 0)))
theorem collectT_out {N : Int} {A : Nat} {c : SS × RepD} (h : XInv N A c.1) {t : Nat} (h1 : c.2.rs t = false) (h2 : c.2.rp t = false) :
    OutC t (c.1.x.tp t) (c.1.p t) (slotOf c.1.x t) (c.1.x.mp (mo c.1.x t)).iso ((collectT t c).1.x.tp t) ((collectT t c).1.p t) (slotOf (collectT t c).1.x t) ((collectT t c).2.rs t) ((collectT t c).2.rp t) := by
  unfold collectT OutC
  by_cases hb : (c.1.x.tp t).busy = false
  · rw [if_pos hb]
    exact .inl ⟨(fun hh => by rw [hb] at hh; cases hh.1), h1, h2, rfl, fun hh => by rw [hb] at hh; cases hh.1⟩
  rw [if_neg hb]
  have hb' : (c.1.x.tp t).busy = true := by simpa using hb
  have hpb : t < 6 → (c.1.p t).busy = true := fun h6 => (h.busy t h6).symm.trans hb'
  by_cases hw : t < 6 ∧ tickEnds (c.1.p t) = false
  · rw [if_pos hw]
    by_cases ho : (c.1.x.tp t).orph = true
    · refine .inl ⟨(fun hh => by rw [ho] at hh; cases hh.2), h1, h2, ticked_atts _ _, ?_⟩
      show ¬ (((ticked c.1 t).x.tp t).busy = true ∧ ((ticked c.1 t).x.tp t).orph = false)
      rw [ticked_x]; exact fun hh => by rw [ho] at hh; cases hh.2
    · refine .inr (.inl ⟨⟨hb', by simpa using ho⟩, hw.1, h1, h2, ticked_atts _ _, ?_, ?_⟩)
      · show (ticked c.1 t).x.tp t = _; rw [ticked_x]
      · show slotOf (ticked c.1 t).x t = _; rw [ticked_x]
  rw [if_neg hw]
  have hend : t < 6 → tickEnds (c.1.p t) = true := fun h6 => by
    cases he : tickEnds (c.1.p t)
    · exact absurd ⟨h6, he⟩ hw
    · rfl
  by_cases ho : (c.1.x.tp t).orph = true
  · rw [if_pos ho]
    refine .inl ⟨(fun hh => by rw [ho] at hh; cases hh.2), h1, h2, ticked_atts _ _, ?_⟩
    show ¬ (((c.1.x.setT t { c.1.x.tp t with busy := false, orph := false }).tp t).busy = true ∧ _)
    rw [setT_tp]; exact fun hh => by cases hh.1
  rw [if_neg ho]
  have hf : (c.1.x.tp t).busy = true ∧ (c.1.x.tp t).orph = false := ⟨hb', by simpa using ho⟩
  have hl : t < 6 → ∃ l, (c.1.p t).atts.getLast? = some l ∧ tickS (c.1.p t) = endP l.p := fun h6 => (h.port t h6).ends (hend h6)
  by_cases ha : again c.1.x t (pC t (c.1.p t)) = true
  · rw [if_pos ha]
    have hag := ha
    unfold again at hag
    simp only [Bool.and_eq_true, decide_eq_true_eq, Bool.not_eq_true'] at hag
    obtain ⟨⟨⟨a1, a2⟩, a3⟩, a4⟩ := hag
    have h6 : t < 6 := by
      by_cases h6 : t < 6
      · exact h6
      · exfalso; unfold pC at a1; rw [if_neg h6] at a1; unfold mayRep at a1; simp at a1
    obtain ⟨l, hl1, hl2⟩ := hl h6
    unfold pC at a1
    rw [if_pos h6, hl2] at a1
    refine .inr (.inr (.inl ⟨hf, h6, by simp [upd], h2, rfl, ⟨l, hl1, a1, a2, a3, a4⟩, ?_, ?_⟩))
    · show slotOf (retried c.1.x t) t = _
      unfold retried setSlot slotOf
      simp only [setS_tp, setS_sl]
    · refine ⟨headPlan ((ticked c.1 t).p t), headPlan_ok (A := A) ?_, ?_⟩
      · rw [ticked_p, if_pos ⟨rfl, h6⟩]; exact (h.port t h6).tick
      · show ((sent { ticked c.1 t with x := retried c.1.x t } t).p t).atts = _
        rw [sent_p, if_pos ⟨rfl, h6⟩]
        show ((ticked c.1 t).p t).atts ++ _ = _
        rw [ticked_atts]
        have : mkReq (retried c.1.x t) t = ⟨lid (c.1.x.tp t).m (c.1.x.tp t).sq, (slotOf c.1.x t).req.w, (slotOf c.1.x t).req.ad, (slotOf c.1.x t).req.da⟩ := by
          unfold mkReq retried setSlot
          simp only [setS_tp, slotOf, setS_sl]
        simp only [this]
  · rw [if_neg ha]
    have hx1 : ∀ x1 : XS, x1.mp = c.1.x.mp → x1.tp = c.1.x.tp → ∀ a : Slot, slotOf ((setSlot x1 t a).setT t { c.1.x.tp t with busy := false }) t = a := fun x1 e1 e2 a => by
      unfold slotOf setSlot
      simp only [setT_tp, setT_mp, e2]
      rw [setS_sl]
    have hc : (t < 6 ∧ (∃ l, (c.1.p t).atts.getLast? = some l ∧ pC t (c.1.p t) = endP l.p) ∧ pS t (c.1.p t) = (if pC t (c.1.p t) = 0 then 0 else if pC t (c.1.p t) = 1 then 1 else 3) ∧ ¬ (mayRep (slotOf c.1.x t).req.w (pC t (c.1.p t)) = true ∧ (slotOf c.1.x t).ret.re < 3 ∧ (c.1.x.tp t).iso = false ∧ (c.1.x.mp (mo c.1.x t)).iso = false)) ∨ (¬ t < 6 ∧ pS t (c.1.p t) = 2 ∧ pC t (c.1.p t) = 0) := by
      by_cases h6 : t < 6
      · left
        obtain ⟨l, hl1, hl2⟩ := hl h6
        refine ⟨h6, ⟨l, hl1, by unfold pC; rw [if_pos h6, hl2]⟩, ?_, ?_⟩
        · unfold pC pS; rw [if_pos h6, if_pos h6]
          unfold endS
          simp
        · rintro ⟨b1, b2, b3, b4⟩
          apply ha
          unfold again
          unfold mo at b4
          rw [b1, b3, b4]; simp [b2]
      · right
        unfold pC pS
        rw [if_neg h6, if_neg h6]; exact ⟨h6, rfl, rfl⟩
    by_cases h3 : pS t (c.1.p t) = 3
    · simp only [if_pos h3]
      refine .inr (.inr (.inr ⟨hf, h1, ?_, ticked_atts _ _, 3, pD t (c.1.p t), pC t (c.1.p t), ?_, by simp [upd], ?_⟩))
      · unfold setSlot; rw [setT_tp]
      · exact (hx1 (c.1.x.setP t (sat (c.1.x.sp t))) rfl rfl _).trans (by rw [h3])
      · rw [h3] at hc; exact hc
    · simp only [if_neg h3]
      refine .inr (.inr (.inr ⟨hf, h1, ?_, ticked_atts _ _, pS t (c.1.p t), pD t (c.1.p t), pC t (c.1.p t), ?_, ?_, hc⟩))
      · unfold setSlot; rw [setT_tp]
      · exact hx1 c.1.x rfl rfl _
      · rw [h2]; simp [h3]
/-- Two transactions in flight: two slots. -/
theorem XInv.apart {N : Int} {A : Nat} {σ : SS} (h : XInv N A σ) {t t' : Nat} (ht : t < 7) (ht' : t' < 7) (hf : flying σ.x t) (hf' : flying σ.x t') (hne : t ≠ t') : ¬ (mo σ.x t = mo σ.x t' ∧ ((σ.x.tp t).sq % 4).toNat = ((σ.x.tp t').sq % 4).toNat) := by
  rintro ⟨e1, e2⟩
  obtain ⟨f1, f2, _⟩ := h.fly t ht hf
  obtain ⟨g1, g2, _⟩ := h.fly t' ht' hf'
  have hm : mo σ.x t' < 3 := by have := h.tm t' ht'; unfold mo; omega
  obtain ⟨c1, c2, c3, c4, c5⟩ := h.cnt _ hm
  rw [e1] at f1 f2
  exact h.dist t t' ht ht' hf hf' hne ⟨e1, window c1 f1 (by omega) g1 (by omega) e2⟩
structure ColI (σ : SS) (ρ : RepD) (n : Nat) (c : SS × RepD) : Prop where
  mp : ∀ m, (c.1.x.mp m).iss = (σ.x.mp m).iss ∧ (c.1.x.mp m).gr = (σ.x.mp m).gr ∧ (c.1.x.mp m).rt = (σ.x.mp m).rt ∧ (c.1.x.mp m).tk = (σ.x.mp m).tk ∧ (c.1.x.mp m).iso = (σ.x.mp m).iso
  row : ∀ τ, (c.1.x.tp τ).m = (σ.x.tp τ).m ∧ (c.1.x.tp τ).sq = (σ.x.tp τ).sq ∧ (c.1.x.tp τ).turn = (σ.x.tp τ).turn ∧ (c.1.x.tp τ).iso = (σ.x.tp τ).iso
  far : ∀ τ, n ≤ τ → c.1.x.tp τ = σ.x.tp τ ∧ c.1.p τ = σ.p τ ∧ c.2.rs τ = ρ.rs τ ∧ c.2.rp τ = ρ.rp τ
  sl : ∀ m s, (∀ τ, τ < n → flying σ.x τ → ¬ (mo σ.x τ = m ∧ ((σ.x.tp τ).sq % 4).toNat = s)) → (c.1.x.mp m).sl s = (σ.x.mp m).sl s
  near : ∀ τ, τ < n → OutC τ (σ.x.tp τ) (σ.p τ) (slotOf σ.x τ) (σ.x.mp (mo σ.x τ)).iso (c.1.x.tp τ) (c.1.p τ) (slotOf c.1.x τ) (c.2.rs τ) (c.2.rp τ)
  g : c.2.g = ρ.g
  r : c.2.r = ρ.r
theorem OutC.slots {t : Nat} {r : TP} {q : PS} {s : Slot} {im : Bool} {r' : TP} {q' : PS} {s' : Slot} {rs rp : Bool} (h : OutC t r q s im r' q' s' rs rp) {a a' : Slot} (ha : r.busy = true ∧ r.orph = false → a = s ∧ a' = s') : OutC t r q a im r' q' a' rs rp := by
  by_cases hf : r.busy = true ∧ r.orph = false
  · obtain ⟨e1, e2⟩ := ha hf; rw [e1, e2]; exact h
  · rcases h with h | h | h | h
    · exact .inl h
    · exact absurd h.1 hf
    · exact absurd h.1 hf
    · exact absurd h.1 hf
theorem colI {N : Int} {A : Nat} {σ : SS} (h : XInv N A σ) (ρ : RepD) (hρ : ∀ τ, ρ.rs τ = false ∧ ρ.rp τ = false) : ∀ n, n ≤ 7 → ColI σ ρ n (collectN n (σ, ρ))
  | 0, _ => ⟨fun _ => ⟨rfl, rfl, rfl, rfl, rfl⟩, fun _ => ⟨rfl, rfl, rfl, rfl⟩, fun _ _ => ⟨rfl, rfl, rfl, rfl⟩, fun _ _ _ => rfl, fun τ hτ => absurd hτ (by omega), rfl, rfl⟩
  | n + 1, hn => by
    have ih := colI h ρ hρ n (by omega)
    have hi := h.collectN ρ n (by omega)
    obtain ⟨b1, b2, b3, b4, b5, b6⟩ := collectT_else n (collectN n (σ, ρ))
    have hout := collectT_out (c := collectN n (σ, ρ)) hi (t := n) (by rw [(ih.far n (Nat.le_refl _)).2.2.1]; exact (hρ n).1) (by rw [(ih.far n (Nat.le_refl _)).2.2.2]; exact (hρ n).2)
    show ColI σ ρ (n + 1) (collectT n (collectN n (σ, ρ)))
    generalize collectN n (σ, ρ) = c at *
    obtain ⟨f1, f2, f3, f4⟩ := ih.far n (Nat.le_refl _)
    have hfl : flying c.1.x n ↔ flying σ.x n := by unfold flying; rw [f1]
    have hmo : mo c.1.x n = mo σ.x n := by unfold mo; rw [f1]
    have hsl : flying σ.x n → slotOf c.1.x n = slotOf σ.x n := fun hf => by
      unfold slotOf
      rw [f1]
      exact ih.sl _ _ (fun τ hτ hfτ => h.apart (by omega) (by omega) hfτ hf (by omega))
    refine ⟨fun m => ?_, fun τ => ?_, fun τ hτ => ?_, fun m s hs => ?_, fun τ hτ => ?_, b5.trans ih.g, b6.trans ih.r⟩
    · obtain ⟨x1, x2, x3, x4, x5⟩ := b3 m
      obtain ⟨y1, y2, y3, y4, y5⟩ := ih.mp m
      exact ⟨x1.trans y1, x2.trans y2, x3.trans y3, x4.trans y4, x5.trans y5⟩
    · obtain ⟨x1, x2, x3, x4⟩ := b4 τ
      obtain ⟨y1, y2, y3, y4⟩ := ih.row τ
      exact ⟨x1.trans y1, x2.trans y2, x3.trans y3, x4.trans y4⟩
    · obtain ⟨x1, x2, x3, x4⟩ := b1 τ (by omega)
      obtain ⟨y1, y2, y3, y4⟩ := ih.far τ (by omega)
      exact ⟨x1.trans y1, x2.trans y2, x3.trans y3, x4.trans y4⟩
    · rw [b2 m s, ih.sl m s (fun τ hτ => hs τ (by omega))]
      rintro ⟨q1, q2, q3⟩
      rw [f1] at q3
      exact hs n (by omega) (hfl.1 q1) ⟨hmo.symm.trans q2, q3⟩
    · by_cases e : τ = n
      · subst e
        rw [f1, f2, hmo] at hout
        rw [(ih.mp _).2.2.2.2] at hout
        exact hout.slots (fun hf => ⟨(hsl hf).symm, rfl⟩)
      · obtain ⟨x1, x2, x3, x4⟩ := b1 τ e
        rw [x1, x2, x3, x4]
        refine (ih.near τ (by omega)).slots (fun hf => ⟨rfl, ?_⟩)
        unfold slotOf
        rw [x1, b2]
        rintro ⟨q1, q2, q3⟩
        have r1 := ih.row τ
        have hn' := h.apart (t := n) (t' := τ) (by omega) (by omega) (hfl.1 q1) hf (Ne.symm e)
        apply hn'
        refine ⟨hmo.symm.trans (q2.trans ?_), ?_⟩
        · unfold mo; rw [r1.1]
        · rw [f1, r1.2.1] at q3; exact q3
end Go.Proofs.Qxb6500750aDoor
