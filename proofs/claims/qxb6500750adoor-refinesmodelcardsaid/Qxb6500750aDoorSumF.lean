import Derived.Test.Qxb6500750aDoorSumA
namespace Go.Proofs.Qxb6500750aDoor
open Go.RowKit
/-! ### Collect and arbitrate at one target, as functions -/
def againL (r : TP) (s : Slot) (im : Bool) (ca : Int) : Bool := mayRep s.req.w ca && decide (s.ret.re < 3) && !r.iso && !im
def tkL (t : Nat) (q : PS) : PS := if t < 6 then tickP q else q
def reqL (r : TP) (s : Slot) : LReq := ⟨lid r.m r.sq, s.req.w, s.req.ad, s.req.da⟩
/-- Row, link and slot behind a round of collect; the bits of the report. -/
structure CL where
  r : TP
  q : PS
  s : Slot
  rs : Bool
  rp : Bool
def colL (t : Nat) (r : TP) (q : PS) (s : Slot) (im : Bool) : CL :=
  if r.busy = false then ⟨r, q, s, false, false⟩
  else if t < 6 ∧ tickEnds q = false then ⟨r, tickP q, s, false, false⟩
  else if r.orph = true then ⟨{ r with busy := false, orph := false }, tkL t q, s, false, false⟩
  else if againL r s im (pC t q) = true then ⟨r, if t < 6 then sendP (tickP q) (reqL r s) else q, { s with ret := { s.ret with re := s.ret.re + 1 } }, true, false⟩
  else ⟨{ r with busy := false }, tkL t q, landS s (pS t q) (pD t q) (pC t q), false, pS t q == 3⟩
theorem colL_idle {t : Nat} {r : TP} {q : PS} {s s' : Slot} {im im' : Bool} (h : ¬ (r.busy = true ∧ r.orph = false)) :
    (colL t r q s im).r = (colL t r q s' im').r ∧ (colL t r q s im).q = (colL t r q s' im').q ∧ (colL t r q s im).rs = (colL t r q s' im').rs ∧ (colL t r q s im).rp = (colL t r q s' im').rp := by
  unfold colL
  by_cases hb : r.busy = false
  · simp only [if_pos hb]; exact ⟨trivial, trivial, trivial, trivial⟩
  · have ho : r.orph = true := by
      cases ho : r.orph
      · exact absurd ⟨by simpa using hb, ho⟩ h
      · rfl
    simp only [if_neg hb, if_pos ho]
    by_cases hw : t < 6 ∧ tickEnds q = false
    · simp only [if_pos hw]; exact ⟨trivial, trivial, trivial, trivial⟩
    · simp only [if_neg hw]; exact ⟨trivial, trivial, trivial, trivial⟩
theorem tk_p (σ : SS) (t : Nat) : (ticked σ t).p t = tkL t (σ.p t) := by
  rw [ticked_p]; unfold tkL
  by_cases h : t < 6
  · rw [if_pos ⟨rfl, h⟩, if_pos h]
  · rw [if_neg (fun e => h e.2), if_neg h]
theorem collectT_loc {c : SS × RepD} {t : Nat} (h1 : c.2.rs t = false) (h2 : c.2.rp t = false) :
    (collectT t c).1.x.tp t = (colL t (c.1.x.tp t) (c.1.p t) (slotOf c.1.x t) (c.1.x.mp (mo c.1.x t)).iso).r ∧
    (collectT t c).1.p t = (colL t (c.1.x.tp t) (c.1.p t) (slotOf c.1.x t) (c.1.x.mp (mo c.1.x t)).iso).q ∧
    slotOf (collectT t c).1.x t = (colL t (c.1.x.tp t) (c.1.p t) (slotOf c.1.x t) (c.1.x.mp (mo c.1.x t)).iso).s ∧
    (collectT t c).2.rs t = (colL t (c.1.x.tp t) (c.1.p t) (slotOf c.1.x t) (c.1.x.mp (mo c.1.x t)).iso).rs ∧
    (collectT t c).2.rp t = (colL t (c.1.x.tp t) (c.1.p t) (slotOf c.1.x t) (c.1.x.mp (mo c.1.x t)).iso).rp := by
  unfold collectT colL
  by_cases hb : (c.1.x.tp t).busy = false
  · rw [if_pos hb, if_pos hb]; exact ⟨rfl, rfl, rfl, h1, h2⟩
  rw [if_neg hb, if_neg hb]
  by_cases hw : t < 6 ∧ tickEnds (c.1.p t) = false
  · rw [if_pos hw, if_pos hw]
    refine ⟨?_, ?_, ?_, h1, h2⟩
    · show (ticked c.1 t).x.tp t = _; rw [ticked_x]
    · show (ticked c.1 t).p t = _; rw [ticked_p, if_pos ⟨rfl, hw.1⟩]
    · show slotOf (ticked c.1 t).x t = _; rw [ticked_x]
  rw [if_neg hw, if_neg hw]
  by_cases ho : (c.1.x.tp t).orph = true
  · rw [if_pos ho, if_pos ho]
    refine ⟨by rw [setT_tp], tk_p _ _, ?_, h1, h2⟩
    show slotOf (c.1.x.setT t _) t = _
    unfold slotOf
    rw [setT_tp]; rfl
  rw [if_neg ho, if_neg ho]
  have hag : again c.1.x t (pC t (c.1.p t)) = againL (c.1.x.tp t) (slotOf c.1.x t) (c.1.x.mp (mo c.1.x t)).iso (pC t (c.1.p t)) := rfl
  by_cases ha : again c.1.x t (pC t (c.1.p t)) = true
  · have hag' : againL (c.1.x.tp t) (slotOf c.1.x t) (c.1.x.mp (mo c.1.x t)).iso (pC t (c.1.p t)) = true := by rw [← hag]; exact ha
    rw [if_pos ha, if_pos hag']
    refine ⟨rfl, ?_, ?_, by simp [upd], h2⟩
    · show (sent { ticked c.1 t with x := retried c.1.x t } t).p t = _
      rw [sent_p]
      by_cases h6 : t < 6
      · rw [if_pos ⟨rfl, h6⟩, if_pos h6]
        show sendP ((ticked c.1 t).p t) (mkReq (retried c.1.x t) t) = _
        rw [tk_p]
        unfold tkL
        rw [if_pos h6]
        congr 1
        unfold mkReq retried setSlot reqL
        simp only [setS_tp, slotOf, setS_sl]
      · rw [if_neg (fun e => h6 e.2), if_neg h6]
        show (ticked c.1 t).p t = _
        rw [tk_p]; unfold tkL; rw [if_neg h6]
    · show slotOf (retried c.1.x t) t = _
      unfold retried setSlot slotOf
      simp only [setS_tp, setS_sl]
  · have hag' : ¬ againL (c.1.x.tp t) (slotOf c.1.x t) (c.1.x.mp (mo c.1.x t)).iso (pC t (c.1.p t)) = true := by rw [← hag]; exact ha
    rw [if_neg ha, if_neg hag']
    have hx1 : ∀ x1 : XS, x1.mp = c.1.x.mp → x1.tp = c.1.x.tp → ∀ a : Slot, slotOf ((setSlot x1 t a).setT t { c.1.x.tp t with busy := false }) t = a := fun x1 e1 e2 a => by
      unfold slotOf setSlot
      simp only [setT_tp, setT_mp, e2]
      rw [setS_sl]
    by_cases h3 : pS t (c.1.p t) = 3
    · simp only [if_pos h3]
      refine ⟨by unfold setSlot; rw [setT_tp], tk_p _ _, ?_, h1, by simp [upd, h3]⟩
      exact hx1 (c.1.x.setP t (sat (c.1.x.sp t))) rfl rfl _
    · simp only [if_neg h3]
      refine ⟨by unfold setSlot; rw [setT_tp], tk_p _ _, hx1 c.1.x rfl rfl _, h1, ?_⟩
      rw [h2]; simp [h3]
def ColF (σ : SS) (c : SS × RepD) (τ : Nat) : Prop :=
  c.1.x.tp τ = (colL τ (σ.x.tp τ) (σ.p τ) (slotOf σ.x τ) (σ.x.mp (mo σ.x τ)).iso).r ∧
  c.1.p τ = (colL τ (σ.x.tp τ) (σ.p τ) (slotOf σ.x τ) (σ.x.mp (mo σ.x τ)).iso).q ∧
  (flying σ.x τ → slotOf c.1.x τ = (colL τ (σ.x.tp τ) (σ.p τ) (slotOf σ.x τ) (σ.x.mp (mo σ.x τ)).iso).s) ∧
  c.2.rs τ = (colL τ (σ.x.tp τ) (σ.p τ) (slotOf σ.x τ) (σ.x.mp (mo σ.x τ)).iso).rs ∧
  c.2.rp τ = (colL τ (σ.x.tp τ) (σ.p τ) (slotOf σ.x τ) (σ.x.mp (mo σ.x τ)).iso).rp
theorem colF {N : Int} {A : Nat} {σ : SS} (h : XInv N A σ) (ρ : RepD) (hρ : ∀ τ, ρ.rs τ = false ∧ ρ.rp τ = false) : ∀ n, n ≤ 7 → ∀ τ, τ < n → ColF σ (collectN n (σ, ρ)) τ
  | 0, _, τ, hτ => absurd hτ (by omega)
  | n + 1, hn, τ, hτ => by
    have ih := colF h ρ hρ n (by omega)
    have hI := colI h ρ hρ n (by omega)
    obtain ⟨b1, b2, b3, b4, b5, b6⟩ := collectT_else n (collectN n (σ, ρ))
    have hout := collectT_loc (c := collectN n (σ, ρ)) (t := n) (by rw [(hI.far n (Nat.le_refl _)).2.2.1]; exact (hρ n).1) (by rw [(hI.far n (Nat.le_refl _)).2.2.2]; exact (hρ n).2)
    show ColF σ (collectT n (collectN n (σ, ρ))) τ
    generalize collectN n (σ, ρ) = c at *
    obtain ⟨f1, f2, f3, f4⟩ := hI.far n (Nat.le_refl _)
    have hfl : flying c.1.x n ↔ flying σ.x n := by unfold flying; rw [f1]
    have hmo : mo c.1.x n = mo σ.x n := by unfold mo; rw [f1]
    have hsl : flying σ.x n → slotOf c.1.x n = slotOf σ.x n := fun hf => by
      unfold slotOf
      rw [f1]
      exact hI.sl _ _ (fun τ hτ hfτ => h.apart (by omega) (by omega) hfτ hf (by omega))
    unfold ColF
    by_cases e : τ = n
    · subst e
      rw [f1, f2, hmo, (hI.mp _).2.2.2.2] at hout
      obtain ⟨o1, o2, o3, o4, o5⟩ := hout
      by_cases hf : flying σ.x τ
      · rw [hsl hf] at o1 o2 o3 o4 o5
        exact ⟨o1, o2, fun _ => o3, o4, o5⟩
      · obtain ⟨g1, g2, g3, g4⟩ := colL_idle (t := τ) (q := σ.p τ) (s := slotOf c.1.x τ) (s' := slotOf σ.x τ) (im := (σ.x.mp (mo σ.x τ)).iso) (im' := (σ.x.mp (mo σ.x τ)).iso) hf
        exact ⟨o1.trans g1, o2.trans g2, fun hh => absurd hh hf, o4.trans g3, o5.trans g4⟩
    · obtain ⟨x1, x2, x3, x4⟩ := b1 τ e
      obtain ⟨y1, y2, y3, y4, y5⟩ := ih τ (by omega)
      rw [x1, x2, x3, x4]
      refine ⟨y1, y2, fun hf => ?_, y4, y5⟩
      rw [← y3 hf]
      unfold slotOf
      rw [x1, b2]
      rintro ⟨q1, q2, q3⟩
      have r1 := hI.row τ
      have hn' := h.apart (t := n) (t' := τ) (by omega) (by omega) (hfl.1 q1) hf (Ne.symm e)
      apply hn'
      refine ⟨hmo.symm.trans (q2.trans ?_), ?_⟩
      · unfold mo; rw [r1.1]
      · rw [f1, r1.2.1] at q3; exact q3
theorem arbF {N : Int} {A : Nat} {σ : SS} (h : XInv N A σ) (p : Int) (ρ : RepD) : ∀ n, n ≤ 7 → ∀ τ, τ < n → ∀ m, m < 3 → (arbN (wantsF σ.x) p n (σ, ρ)).2.g τ = (m : Nat) →
    (arbN (wantsF σ.x) p n (σ, ρ)).1.p τ = if τ < 6 then sendP (σ.p τ) ⟨lid (m : Nat) (σ.x.mp m).gr, (slq σ.x m (σ.x.mp m).gr).req.w, (slq σ.x m (σ.x.mp m).gr).req.ad, (slq σ.x m (σ.x.mp m).gr).req.da⟩ else σ.p τ
  | 0, _, τ, hτ => absurd hτ (by omega)
  | n + 1, hn, τ, hτ => by
    have ih := arbF h p ρ n (by omega)
    have hI := arbI h p ρ n (by omega)
    obtain ⟨hi, hw0⟩ := h.arbN p ρ n (by omega)
    show ∀ m, m < 3 → (arbT (wantsF σ.x) p n (arbN (wantsF σ.x) p n (σ, ρ))).2.g τ = (m : Nat) → (arbT (wantsF σ.x) p n (arbN (wantsF σ.x) p n (σ, ρ))).1.p τ = _
    generalize arbN (wantsF σ.x) p n (σ, ρ) = c at *
    obtain ⟨f1, f2, f3⟩ := hI.far n (Nat.le_refl _)
    intro m hm hg
    unfold arbT at hg ⊢
    by_cases hq : (c.1.x.tp n).busy = true ∨ wv (wantsF σ.x n) = 0
    · rw [if_pos hq] at hg ⊢
      have hg : upd c.2.g n (-1) τ = (m : Nat) := hg
      by_cases e : τ = n
      · subst e; rw [upd_same] at hg; omega
      · rw [upd_ne _ _ _ _ e] at hg
        exact ih τ (by omega) m hm hg
    · rw [if_neg hq] at hg ⊢
      have ht := hi.turn n (by omega)
      obtain ⟨m', hm'⟩ : ∃ m', cho (wantsF σ.x n) (pickAt p n) (c.1.x.tp n).turn.toNat = m' := ⟨_, rfl⟩
      have hm3 : m' < 3 := by rw [← hm']; exact cho_lt _ _ _ (by omega)
      have hwm : wantsF σ.x n m' = true := by rw [← hm']; exact cho_wants _ _ _ (by omega) (fun e => hq (.inr e))
      have hng : ∀ t, t < n → c.2.g t ≠ (m' : Nat) := fun t htn hg => by
        have := (hI.near t htn).wants (h.turn t (by omega)) hg
        rw [wantsF_one σ.x n t m' hwm (by omega)] at this; cases this
      have hmp : c.1.x.mp m' = σ.x.mp m' := by
        rcases hI.mp m' hm3 with h1 | ⟨_, t, b2, b3, _⟩
        · exact h1.1
        · exact absurd b3 (hng t b2)
      simp only [hm'] at hg ⊢
      have hsp : ∀ s, (sent { c.1 with x := grantX c.1.x n m' } n).p s = if s = n ∧ n < 6 then sendP (c.1.p n) (mkReq (grantX c.1.x n m') n) else c.1.p s := fun s => sent_p _ n s
      have hg : upd c.2.g n (m' : Nat) τ = (m : Nat) := hg
      show (sent { c.1 with x := grantX c.1.x n m' } n).p τ = _
      rw [hsp]
      by_cases e : τ = n
      · subst e
        rw [upd_same] at hg
        have hmm : m' = m := by omega
        subst hmm
        by_cases h6 : τ < 6
        · rw [if_pos ⟨rfl, h6⟩, if_pos h6, f2]
          congr 1
          unfold mkReq slotOf slq
          rw [grantX_tp]
          simp only [Int.toNat_natCast]
          rw [grantX_mp, if_pos rfl, hmp]
          unfold gMP
          simp only [upd_same]
        · rw [if_neg (fun e => h6 e.2), if_neg h6, f2]
      · rw [upd_ne _ _ _ _ e] at hg
        rw [if_neg (fun h => e h.1)]
        exact ih τ (by omega) m hm hg
end Go.Proofs.Qxb6500750aDoor
