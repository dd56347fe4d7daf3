import Derived.Test.Qxb6500750aDoorSumC
namespace Go.Proofs.Qxb6500750aDoor
open Go.RowKit
/-! ### What arbitrate does, target by target -/
def gMP (a : MP) : MP := { a with sl := upd a.sl (a.gr % 4).toNat { a.sl (a.gr % 4).toNat with ph := 1 }, gr := a.gr + 1 }
theorem grantX_mp (x : XS) (t m m' : Nat) : (grantX x t m).mp m' = if m' = m then gMP (x.mp m) else x.mp m' := by
  unfold grantX gMP
  rw [setM_get]
  rfl
theorem grantX_tp' (x : XS) (t m t' : Nat) : (grantX x t m).tp t' = if t' = t then { x.tp t with busy := true, m := (m : Nat), sq := (x.mp m).gr, turn := ((m : Int) + 1) % 3 } else x.tp t' := by
  unfold grantX
  rw [setM_tp, setT_get]
/-- How a round of arbitrate at target t may come out. -/
def OutA (x : XS) (p : Int) (t : Nat) (r : TP) (q : PS) (r' : TP) (q' : PS) (g : Int) : Prop :=
  (g = -1 ∧ r' = r ∧ q' = q ∧ (r.busy = true ∨ wv (wantsF x t) = 0)) ∨
  ∃ m : Nat, m < 3 ∧ g = (m : Nat) ∧ r.busy = false ∧ wv (wantsF x t) ≠ 0 ∧ cho (wantsF x t) (pickAt p t) r.turn.toNat = m ∧ (x.mp m).gr ≠ (x.mp m).iss ∧ r' = { r with busy := true, m := (m : Nat), sq := (x.mp m).gr, turn := ((m : Int) + 1) % 3 } ∧
    (t < 6 → ∃ pl, planOK pl ∧ q'.atts = q.atts ++ [⟨⟨lid (m : Nat) (x.mp m).gr, (slq x m (x.mp m).gr).req.w, (slq x m (x.mp m).gr).req.ad, (slq x m (x.mp m).gr).req.da⟩, pl, actB pl.o⟩])
structure ArbI (σ : SS) (ρ : RepD) (p : Int) (n : Nat) (c : SS × RepD) : Prop where
  far : ∀ τ, n ≤ τ → c.1.x.tp τ = σ.x.tp τ ∧ c.1.p τ = σ.p τ ∧ c.2.g τ = ρ.g τ
  near : ∀ τ, τ < n → OutA σ.x p τ (σ.x.tp τ) (σ.p τ) (c.1.x.tp τ) (c.1.p τ) (c.2.g τ)
  mp : ∀ m, m < 3 → (c.1.x.mp m = σ.x.mp m ∧ ∀ t, t < n → c.2.g t ≠ (m : Nat)) ∨ (c.1.x.mp m = gMP (σ.x.mp m) ∧ ∃ t, t < n ∧ c.2.g t = (m : Nat) ∧ ∀ t', t' < n → c.2.g t' = (m : Nat) → t' = t)
  rs : c.2.rs = ρ.rs
  rp : c.2.rp = ρ.rp
  r : c.2.r = ρ.r
theorem OutA.wants {x : XS} {p : Int} {t : Nat} {r : TP} {q : PS} {r' : TP} {q' : PS} {g : Int} (h : OutA x p t r q r' q' g) (ht : 0 ≤ r.turn ∧ r.turn < 3) {m : Nat} (hg : g = (m : Nat)) : wantsF x t m = true := by
  rcases h with h | ⟨m', h3, h4, _, h5, h6, _⟩
  · rw [h.1] at hg; omega
  · rw [h4] at hg
    have : m' = m := by omega
    subst this
    rw [← h6]
    exact cho_wants _ _ _ (by omega) h5
theorem arbI {N : Int} {A : Nat} {σ : SS} (h : XInv N A σ) (p : Int) (ρ : RepD) : ∀ n, n ≤ 7 → ArbI σ ρ p n (arbN (wantsF σ.x) p n (σ, ρ))
  | 0, _ => ⟨fun _ _ => ⟨rfl, rfl, rfl⟩, fun τ hτ => absurd hτ (by omega), fun _ _ => .inl ⟨rfl, fun t ht => absurd ht (by omega)⟩, rfl, rfl, rfl⟩
  | n + 1, hn => by
    have ih := arbI h p ρ n (by omega)
    obtain ⟨hi, hw0⟩ := h.arbN p ρ n (by omega)
    show ArbI σ ρ p (n + 1) (arbT (wantsF σ.x) p n (arbN (wantsF σ.x) p n (σ, ρ)))
    generalize arbN (wantsF σ.x) p n (σ, ρ) = c at *
    obtain ⟨f1, f2, f3⟩ := ih.far n (Nat.le_refl _)
    unfold arbT
    by_cases hq : (c.1.x.tp n).busy = true ∨ wv (wantsF σ.x n) = 0
    · rw [if_pos hq]
      refine ⟨fun τ hτ => ?_, fun τ hτ => ?_, fun m hm => ?_, ih.rs, ih.rp, ih.r⟩
      · obtain ⟨a1, a2, a3⟩ := ih.far τ (by omega)
        exact ⟨a1, a2, by show upd c.2.g n (-1) τ = _; rw [upd_ne _ _ _ _ (by omega)]; exact a3⟩
      · by_cases e : τ = n
        · subst e
          refine .inl ⟨upd_same _ _ _, f1, f2, ?_⟩
          rw [f1] at hq; exact hq
        · show OutA σ.x p τ _ _ (c.1.x.tp τ) (c.1.p τ) (upd c.2.g n (-1) τ)
          rw [upd_ne _ _ _ _ e]; exact ih.near τ (by omega)
      · rcases ih.mp m hm with ⟨b1, b2⟩ | ⟨b1, t, b2, b3, b4⟩
        · refine .inl ⟨b1, fun t ht => ?_⟩
          show upd c.2.g n (-1) t ≠ _
          by_cases e : t = n
          · subst e; rw [upd_same]; omega
          · rw [upd_ne _ _ _ _ e]; exact b2 t (by omega)
        · refine .inr ⟨b1, t, by omega, ?_, fun t' ht' hg => ?_⟩
          · show upd c.2.g n (-1) t = _; rw [upd_ne _ _ _ _ (by omega)]; exact b3
          · have hg : upd c.2.g n (-1) t' = (m : Nat) := hg
            by_cases e : t' = n
            · subst e; rw [upd_same] at hg; omega
            · rw [upd_ne _ _ _ _ e] at hg; exact b4 t' (by omega) hg
    · rw [if_neg hq]
      have ht := hi.turn n (by omega)
      obtain ⟨m, hm⟩ : ∃ m, cho (wantsF σ.x n) (pickAt p n) (c.1.x.tp n).turn.toNat = m := ⟨_, rfl⟩
      have hm3 : m < 3 := by rw [← hm]; exact cho_lt _ _ _ (by omega)
      have hwm : wantsF σ.x n m = true := by rw [← hm]; exact cho_wants _ _ _ (by omega) (fun e => hq (.inr e))
      have hng : ∀ t, t < n → c.2.g t ≠ (m : Nat) := fun t htn hg => by
        have := (ih.near t htn).wants (h.turn t (by omega)) hg
        rw [wantsF_one σ.x n t m hwm (by omega)] at this; cases this
      have hmp : c.1.x.mp m = σ.x.mp m := by
        rcases ih.mp m hm3 with h1 | ⟨_, t, b2, b3, _⟩
        · exact h1.1
        · exact absurd b3 (hng t b2)
      have hb : (c.1.x.tp n).busy = false := by
        cases hb : (c.1.x.tp n).busy
        · rfl
        · exact absurd (.inl hb) hq
      have hne : (σ.x.mp m).gr ≠ (σ.x.mp m).iss := by
        unfold wantsF at hwm
        simp only [Bool.and_eq_true, Bool.not_eq_true', beq_eq_false_iff_ne] at hwm
        exact hwm.1
      simp only [hm]
      have hsp : ∀ s, (sent { c.1 with x := grantX c.1.x n m } n).p s = if s = n ∧ n < 6 then sendP (c.1.p n) (mkReq (grantX c.1.x n m) n) else c.1.p s := fun s => sent_p _ n s
      refine ⟨fun τ hτ => ⟨?_, ?_, ?_⟩, fun τ hτ => ?_, fun m' hm' => ?_, ih.rs, ih.rp, ih.r⟩
      · show (grantX c.1.x n m).tp τ = _
        rw [grantX_tp', if_neg (by omega)]; exact (ih.far τ (by omega)).1
      · show (sent { c.1 with x := grantX c.1.x n m } n).p τ = _
        rw [hsp, if_neg (by omega)]; exact (ih.far τ (by omega)).2.1
      · show upd c.2.g n (m : Nat) τ = _
        rw [upd_ne _ _ _ _ (by omega)]; exact (ih.far τ (by omega)).2.2
      · show OutA σ.x p τ _ _ ((grantX c.1.x n m).tp τ) ((sent { c.1 with x := grantX c.1.x n m } n).p τ) (upd c.2.g n (m : Nat) τ)
        by_cases e : τ = n
        · subst e
          rw [upd_same, grantX_tp', if_pos rfl, hmp]
          refine .inr ⟨m, hm3, rfl, by rw [← f1]; exact hb, fun e => hq (.inr e), by rw [← f1]; exact hm, hne, by rw [f1], fun h6 => ?_⟩
          rw [hsp, if_pos ⟨rfl, h6⟩]
          refine ⟨headPlan (c.1.p τ), headPlan_ok (hi.port τ h6), ?_⟩
          show (c.1.p τ).atts ++ _ = _
          rw [f2]
          have hrq : mkReq (grantX c.1.x τ m) τ = ⟨lid (m : Nat) (σ.x.mp m).gr, (slq σ.x m (σ.x.mp m).gr).req.w, (slq σ.x m (σ.x.mp m).gr).req.ad, (slq σ.x m (σ.x.mp m).gr).req.da⟩ := by
            unfold mkReq slotOf slq
            rw [grantX_tp]
            simp only [Int.toNat_natCast]
            rw [grantX_mp, if_pos rfl, hmp]
            unfold gMP
            simp only [upd_same]
          rw [hrq]
        · rw [upd_ne _ _ _ _ e, grantX_tp', if_neg e, hsp, if_neg (fun h => e h.1)]
          exact ih.near τ (by omega)
      · show (((grantX c.1.x n m).mp m' = _ ∧ ∀ t, t < n + 1 → upd c.2.g n (m : Nat) t ≠ _) ∨ ((grantX c.1.x n m).mp m' = _ ∧ ∃ t, t < n + 1 ∧ upd c.2.g n (m : Nat) t = _ ∧ ∀ t', t' < n + 1 → upd c.2.g n (m : Nat) t' = (m' : Nat) → t' = t))
        by_cases e : m' = m
        · subst e
          refine .inr ⟨by rw [grantX_mp, if_pos rfl, hmp], n, by omega, upd_same _ _ _, fun t' ht' hg => ?_⟩
          by_cases e : t' = n
          · exact e
          · rw [upd_ne _ _ _ _ e] at hg; exact absurd hg (hng t' (by omega))
        · rw [grantX_mp, if_neg e]
          rcases ih.mp m' hm' with ⟨b1, b2⟩ | ⟨b1, t, b2, b3, b4⟩
          · refine .inl ⟨b1, fun t ht => ?_⟩
            by_cases e2 : t = n
            · subst e2; rw [upd_same]; omega
            · rw [upd_ne _ _ _ _ e2]; exact b2 t (by omega)
          · refine .inr ⟨b1, t, by omega, by rw [upd_ne _ _ _ _ (by omega)]; exact b3, fun t' ht' hg => ?_⟩
            by_cases e2 : t' = n
            · subst e2; rw [upd_same] at hg; omega
            · rw [upd_ne _ _ _ _ e2] at hg; exact b4 t' (by omega) hg
end Go.Proofs.Qxb6500750aDoor
