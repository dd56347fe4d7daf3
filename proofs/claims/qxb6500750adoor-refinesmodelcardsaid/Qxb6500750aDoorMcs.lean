import Derived.Test.Qxb6500750aDoorMcl
import Derived.Test.Qxb6500750aDoorMr4
namespace Go.Proofs.Qxb6500750aDoor
open Go.RowKit
/-! ### Data is nought till the landing: every step keeps it -/
theorem Clean.weak {x x' : XS} (h : Clean x) (hda : ∀ m s, ((x'.mp m).sl s).ret.da = ((x.mp m).sl s).ret.da ∨ ((x'.mp m).sl s).ret.da = 0)
    (hfl : ∀ t, t < 7 → flying x' t → (flying x t ∧ mo x' t = mo x t ∧ (x'.tp t).sq = (x.tp t).sq) ∨ (mo x' t < 3 ∧ (x.mp (mo x' t)).gr ≤ (x'.tp t).sq ∧ (x'.tp t).sq < (x.mp (mo x' t)).iss))
    (hw : ∀ m, m < 3 → ∀ q, (x'.mp m).gr ≤ q → q < (x'.mp m).iss → ((x.mp m).gr ≤ q ∧ q < (x.mp m).iss) ∨ (slq x' m q).ret.da = 0) : Clean x' := by
  refine ⟨fun t ht hf => ?_, fun m hm q h1 h2 => ?_⟩
  · have e : (slotOf x' t) = (x'.mp (mo x' t)).sl ((x'.tp t).sq % 4).toNat := rfl
    rw [e]
    rcases hda (mo x' t) ((x'.tp t).sq % 4).toNat with h9 | h9
    · rw [h9]
      rcases hfl t ht hf with ⟨f1, f2, f3⟩ | ⟨f1, f2, f3⟩
      · rw [f2, f3]; exact h.1 t ht f1
      · exact h.2 _ f1 _ f2 f3
    · exact h9
  · rcases hw m hm q h1 h2 with ⟨f1, f2⟩ | h9
    · rcases hda m (q % 4).toNat with h9 | h9
      · exact h9.trans (h.2 m hm q f1 f2)
      · exact h9
    · exact h9
theorem Clean.grant {σ : SS} (h : Clean σ.x) {t m : Nat} (hm : m < 3) (hg : (σ.x.mp m).gr < (σ.x.mp m).iss) : Clean (grS σ t m).x := by
  have emp : ∀ m', (grS σ t m).x.mp m' = if m' = m then gMP (σ.x.mp m) else σ.x.mp m' := fun m' => grantX_mp σ.x t m m'
  have htp : ∀ τ, (grS σ t m).x.tp τ = if τ = t then { σ.x.tp t with busy := true, m := (m : Nat), sq := (σ.x.mp m).gr, turn := ((m : Int) + 1) % 3 } else σ.x.tp τ := fun τ => grantX_tp' σ.x t m τ
  refine h.weak (fun m' s => .inl ?_) (fun τ hτ hf => ?_) (fun m' hm' q h1 h2 => .inl ?_)
  · rw [emp]
    by_cases e : m' = m
    · subst e
      rw [if_pos rfl]
      unfold gMP
      simp only []
      by_cases e2 : s = ((σ.x.mp m').gr % 4).toNat
      · rw [e2, upd_same]
      · rw [upd_ne _ _ _ _ e2]
    · rw [if_neg e]
  · by_cases e : τ = t
    · right
      have hh := htp τ
      rw [if_pos e] at hh
      have hmo : mo (grS σ t m).x τ = m := by unfold mo; rw [hh]; exact Int.toNat_natCast m
      rw [hmo, hh]
      exact ⟨hm, Int.le_refl _, hg⟩
    · left
      have hh := htp τ
      rw [if_neg e] at hh
      unfold flying mo at *
      rw [hh] at hf ⊢
      exact ⟨hf, rfl, rfl⟩
  · rw [emp] at h1 h2
    by_cases e : m' = m
    · subst e
      rw [if_pos rfl] at h1 h2
      have h1 : (σ.x.mp m').gr + 1 ≤ q := h1
      exact ⟨by omega, h2⟩
    · rw [if_neg e] at h1 h2; exact ⟨h1, h2⟩
theorem Clean.arbT {W : Nat → Nat → Bool} {p : Int} {t : Nat} {c : SS × RepD} (h : Clean c.1.x) (hw : ∀ m, m < 3 → W t m = true → (c.1.x.mp m).gr < (c.1.x.mp m).iss) (htu : (c.1.x.tp t).turn.toNat < 3) : Clean (arbT W p t c).1.x := by
  unfold Go.Proofs.Qxb6500750aDoor.arbT
  by_cases hq : (c.1.x.tp t).busy = true ∨ wv (W t) = 0
  · rw [if_pos hq]; exact h
  · rw [if_neg hq]
    have hm : cho (W t) (pickAt p t) (c.1.x.tp t).turn.toNat < 3 := cho_lt _ _ _ htu
    exact h.grant hm (hw _ hm (cho_wants _ _ _ htu (fun e => hq (.inr e))))
theorem Clean.arbN {N : Int} {A : Nat} {σ : SS} (hX : XInv N A σ) (h : Clean σ.x) (p : Int) (ρ : RepD) : ∀ k, k ≤ 7 → Clean (arbN (wantsF σ.x) p k (σ, ρ)).1.x
  | 0, _ => h
  | k + 1, hk => by
    have ih := Clean.arbN hX h p ρ k (by omega)
    have hI := arbI hX p ρ k (by omega)
    obtain ⟨hXk, _⟩ := hX.arbN p ρ k (by omega)
    refine Clean.arbT ih (fun m hm hwm => ?_) (by have := hXk.turn k (by omega); omega)
    have hng : ∀ τ, τ < k → (Go.Proofs.Qxb6500750aDoor.arbN (wantsF σ.x) p k (σ, ρ)).2.g τ ≠ (m : Nat) := fun τ hτ hg => by
      have := (hI.near τ hτ).wants (hX.turn τ (by omega)) hg
      rw [wantsF_one σ.x k τ m hwm (by omega)] at this; cases this
    have hmp : (Go.Proofs.Qxb6500750aDoor.arbN (wantsF σ.x) p k (σ, ρ)).1.x.mp m = σ.x.mp m := by
      rcases hI.mp m hm with h1 | ⟨_, τ, b2, b3, _⟩
      · exact h1.1
      · exact absurd b3 (hng τ b2)
    rw [hmp]
    have hc := hX.cnt m hm
    unfold wantsF at hwm
    simp only [Bool.and_eq_true, Bool.not_eq_true', beq_eq_false_iff_ne] at hwm
    omega
theorem Clean.setM {x : XS} (h : Clean x) (k : Nat) (a : MP) (hs : a.sl = (x.mp k).sl) (hg : a.gr = (x.mp k).gr) (hi : a.iss = (x.mp k).iss) : Clean (x.setM k a) := by
  have hmp : ∀ m, (x.setM k a).mp m = if m = k then a else x.mp m := fun m => rfl
  refine h.weak (fun m s => .inl ?_) (fun t _ hf => .inl ⟨hf, rfl, rfl⟩) (fun m _ q h1 h2 => .inl ?_)
  · rw [hmp]
    by_cases e : m = k
    · subst e; rw [if_pos rfl, hs]
    · rw [if_neg e]
  · rw [hmp] at h1 h2
    by_cases e : m = k
    · subst e; rw [if_pos rfl] at h1 h2; rw [hg] at h1; rw [hi] at h2; exact ⟨h1, h2⟩
    · rw [if_neg e] at h1 h2; exact ⟨h1, h2⟩
theorem Clean.handN {x : XS} (h : Clean x) (ρ : RepD) : ∀ k, Clean (handN k (x, ρ)).1
  | 0 => h
  | k + 1 => by
    have ih := Clean.handN h ρ k
    show Clean (handT k (Go.Proofs.Qxb6500750aDoor.handN k (x, ρ))).1
    unfold handT
    by_cases hh : hands (Go.Proofs.Qxb6500750aDoor.handN k (x, ρ)).1 k = true
    · rw [if_pos hh]; exact ih.setM _ _ rfl rfl rfl
    · rw [if_neg hh]; exact ih.setM _ _ rfl rfl rfl
theorem Clean.tick {N : Int} {A : Nat} {σ : SS} (hX : XInv N A σ) (h : Clean σ.x) (p : Int) : Clean (tickF p σ).1.x := by
  have h1 : Clean (tick1 σ).1.x := Clean.collectN hX h 7 (by omega)
  have h2 : Clean (tick2 p σ).1.x := Clean.arbN (hX.collectN rep0 7 (by omega)) h1 p _ 7 (by omega)
  exact h2.handN _ 3
theorem Clean.off {x : XS} (h : Clean x) (m : Nat) (r : Req) : Clean (offX x m r) := by
  have hmp : ∀ m', (offX x m r).mp m' = if m' = m then { x.mp m with sl := upd (x.mp m).sl ((x.mp m).iss % 4).toNat ⟨r, 0, ⟨true, (x.mp m).iss, 0, 0, 0, 0⟩⟩, iss := (x.mp m).iss + 1, tk := true } else x.mp m' := fun m' => rfl
  refine h.weak (fun m' s => ?_) (fun t _ hf => .inl ⟨hf, rfl, rfl⟩) (fun m' _ q h1 h2 => ?_)
  · rw [hmp]
    by_cases e : m' = m
    · subst e
      rw [if_pos rfl]
      simp only []
      by_cases e2 : s = ((x.mp m').iss % 4).toNat
      · right; rw [e2, upd_same]
      · left; rw [upd_ne _ _ _ _ e2]
    · left; rw [if_neg e]
  · rw [hmp] at h1 h2
    by_cases e : m' = m
    · subst e
      rw [if_pos rfl] at h1 h2
      have h1 : (x.mp m').gr ≤ q := h1
      have h2 : q < (x.mp m').iss + 1 := h2
      by_cases e2 : q = (x.mp m').iss
      · right
        unfold slq
        rw [hmp, if_pos rfl, e2]
        simp only [upd_same]
      · left; exact ⟨h1, by omega⟩
    · rw [if_neg e] at h1 h2; exact .inl ⟨h1, h2⟩
theorem Clean.cancelT {x : XS} (h : Clean x) (m : Nat) : Clean (cancelT x m) := by
  have hmp : ∀ m', (Go.Proofs.Qxb6500750aDoor.cancelT x m).mp m' = if m' = m then { x.mp m with sl := upd (x.mp m).sl ((x.mp m).gr % 4).toNat (cancelS ((x.mp m).sl ((x.mp m).gr % 4).toNat)), gr := (x.mp m).gr + 1 } else x.mp m' := fun m' => rfl
  refine h.weak (fun m' s => .inl ?_) (fun t _ hf => .inl ⟨hf, rfl, rfl⟩) (fun m' _ q h1 h2 => .inl ?_)
  · rw [hmp]
    by_cases e : m' = m
    · subst e
      rw [if_pos rfl]
      simp only []
      by_cases e2 : s = ((x.mp m').gr % 4).toNat
      · rw [e2, upd_same]; rfl
      · rw [upd_ne _ _ _ _ e2]
    · rw [if_neg e]
  · rw [hmp] at h1 h2
    by_cases e : m' = m
    · subst e
      rw [if_pos rfl] at h1 h2
      have h1 : (x.mp m').gr + 1 ≤ q := h1
      exact ⟨by omega, h2⟩
    · rw [if_neg e] at h1 h2; exact ⟨h1, h2⟩
theorem Clean.cancelN {x : XS} (h : Clean x) (m : Nat) : ∀ k, Clean (cancelN m k x)
  | 0 => h
  | k + 1 => (Clean.cancelN h m k).cancelT m
theorem Clean.iso {x : XS} (h : Clean x) (i : Int) (on : Bool) : Clean (isoX x i on) := by
  unfold isoX
  by_cases h1 : i < 0 ∨ 9 ≤ i
  · rw [if_pos h1]; exact h
  rw [if_neg h1]
  by_cases h3 : 3 ≤ i
  · rw [if_pos h3]
    refine h.weak (fun _ _ => .inl rfl) (fun t _ hf => .inl ?_) (fun _ _ _ h1 h2 => .inl ⟨h1, h2⟩)
    have e : ∀ τ, ((x.setT (i - 3).toNat { x.tp (i - 3).toNat with iso := on }).tp τ).busy = (x.tp τ).busy ∧ ((x.setT (i - 3).toNat { x.tp (i - 3).toNat with iso := on }).tp τ).orph = (x.tp τ).orph ∧ ((x.setT (i - 3).toNat { x.tp (i - 3).toNat with iso := on }).tp τ).m = (x.tp τ).m ∧ ((x.setT (i - 3).toNat { x.tp (i - 3).toNat with iso := on }).tp τ).sq = (x.tp τ).sq := fun τ => by
      rw [setT_get]
      by_cases e : τ = (i - 3).toNat
      · subst e; rw [if_pos rfl]; exact ⟨rfl, rfl, rfl, rfl⟩
      · rw [if_neg e]; exact ⟨rfl, rfl, rfl, rfl⟩
    obtain ⟨e1, e2, e3, e4⟩ := e t
    unfold flying at *
    rw [e1, e2] at hf
    exact ⟨hf, by unfold mo; rw [e3], e4⟩
  · rw [if_neg h3]
    unfold isoM
    simp only []
    have h9 : Clean (x.setM i.toNat { x.mp i.toNat with iso := on }) := h.setM _ _ rfl rfl rfl
    cases on
    · exact h9
    · exact h9.cancelN _ _
theorem Clean.rst (x : XS) : Clean (rstX x) := by
  refine ⟨fun t ht hf => ?_, fun m hm q h1 h2 => ?_⟩
  · unfold flying at hf
    rw [rstX_tp x t ht] at hf
    obtain ⟨f1, f2⟩ := hf
    have f1 : (x.tp t).busy = true := f1
    have f2 : (x.tp t).busy = false := f2
    rw [f1] at f2; cases f2
  · rw [rstX_mp x m hm] at h1 h2
    have h1 : (0 : Int) ≤ q := h1
    have h2 : q < (0 : Int) := h2
    omega
theorem Clean.zero : Clean ss0.x := by
  refine ⟨fun t _ hf => ?_, fun m _ q h1 h2 => ?_⟩
  · have h1 : (false : Bool) = true := hf.1
    cases h1
  · have h1 : (0 : Int) ≤ q := h1
    have h2 : q < (0 : Int) := h2
    omega
theorem Clean.step {N : Int} {A : Nat} {σ : SS} (hX : XInv N A σ) (h : Clean σ.x) (o : OpD) : Clean (stepS σ o).x := by
  unfold stepS
  have hiss : ∀ r, Clean (issX σ.x o.a r) := fun r => by
    unfold issX
    by_cases h3 : 3 ≤ o.a
    · rw [if_pos h3]; exact h
    rw [if_neg h3]
    by_cases h4 : offS σ.x o.a.toNat = 0
    · rw [if_pos h4]; exact h.off _ _
    · rw [if_neg h4]; exact h
  split
  · exact hiss _
  split
  · exact hiss _
  split
  · split <;> exact h
  split
  · exact h.tick hX _
  split
  · exact h.iso _ _
  split
  · exact Clean.rst _
  · exact h
end Go.Proofs.Qxb6500750aDoor
