import Derived.Test.Qxb6500750aDoorFfr
import Derived.Test.Qxb6500750aDoorDrn3
namespace Go.Proofs.Qxb6500750aDoor
open Go.RowKit
/-! ### The books kept in thought, where no auditor runs -/
def Fin (B : BK) : Prop := ∃ K : Nat, ∀ b, K ≤ b → B.fl b = none
theorem Fin.mid {ρ : RepD} {p : Nat → PS} {t : Nat} {B : BK} (h : Fin B) : Fin (midT ρ p t B) := by
  obtain ⟨K, h⟩ := h
  refine ⟨K, fun b hb => ?_⟩
  unfold midT
  cases hf : B.fl (ptN (B.a.pt t)) with
  | none => exact h b hb
  | some f =>
    have hne : b ≠ ptN (B.a.pt t) := fun e => by rw [← e, h b hb] at hf; cases hf
    simp only []
    split
    · exact (upd_ne _ _ _ _ hne).trans (h b hb)
    · split
      · exact (upd_ne _ _ _ _ hne).trans (h b hb)
      · exact h b hb
theorem Fin.gr {ρ : RepD} {p : Nat → PS} {acc : Nat → List Req} {t nb : Nat} {B : BK} (h : Fin B) : Fin (grT ρ p acc t nb B) := by
  obtain ⟨K, h⟩ := h
  refine ⟨max K (nb + 1), fun b hb => ?_⟩
  unfold grT
  split
  · exact h b (by omega)
  · exact (upd_ne _ _ _ _ (by omega)).trans (h b (by omega))
theorem JI.ghost_tick {N : Int} {A : Nat} {σ : SS} (hi : XInv N A σ) (hN : N < 3000000) (p : Int) {B : BK} {acc : Nat → List Req} (J : JI σ B acc) (hf : Fin B) : ∃ B', JI (tickF p σ).1 B' acc ∧ Fin B' := by
  have T := tickTF hi p
  obtain ⟨A2, hi2⟩ := T.inv2
  have hR : ∀ t, t ≤ 7 → ∃ B', JT σ (tick1 σ).1 (tick2 p σ).1 (tickF p σ).2 B.a t false B' ∧ Fin B' := fun t => by
    induction t with
    | zero => exact fun _ => ⟨B, JI.start T J, hf⟩
    | succ t ih =>
      intro ht
      obtain ⟨B', hJ, hF⟩ := ih (by omega)
      have hM := hF.mid (ρ := (tickF p σ).2) (p := (tick2 p σ).1.p) (t := t)
      obtain ⟨K, hK⟩ := hM
      refine ⟨_, JT.gr T acc (fun m hm hlt => ?_) (by omega) (hK K (Nat.le_refl _)) (JT.mid T J.rv (by omega) hJ), Fin.gr ⟨K, hK⟩⟩
      have hc := hi.cnt m hm
      obtain ⟨q, hq⟩ := Int.eq_ofNat_of_zero_le (show 0 ≤ (σ.x.mp m).gr by omega)
      have h1 := J.req m hm q (by omega) (by omega)
      have h2 := J.wt m hm (σ.x.mp m).gr (Int.le_refl _) hlt
      rw [hq] at h2 ⊢
      exact ⟨h1, h2.2.1⟩
  obtain ⟨B7, hJ7, hF7⟩ := hR 7 (Nat.le_refl _)
  have hfl : ∀ (ρ : RepD) (m : Nat) (B : BK), (retM ρ m B).fl = B.fl := fun ρ m B => by
    unfold retM; repeat (first | rfl | split)
  have hS : ∀ k, k ≤ 3 → ∃ B', J2 (tick2 p σ).1 (tickF p σ).2 B.a k B' ∧ Fin B' := fun k => by
    induction k with
    | zero => exact fun _ => ⟨B7, J2.of_rounds T J hJ7, hF7⟩
    | succ k ih =>
      intro hk
      obtain ⟨B', hJ, hF⟩ := ih (by omega)
      refine ⟨_, (J2.ok hi2 (by omega) (tick_ret hi p) (by omega) hJ).2, ?_⟩
      obtain ⟨K, hK⟩ := hF
      exact ⟨K, fun b hb => by rw [hfl]; exact hK b hb⟩
  obtain ⟨B3, hJ3, hF3⟩ := hS 3 (Nat.le_refl _)
  exact ⟨B3, JI.of_tick hi p J hJ3, hF3⟩
/-- The books in thought. -/
def Thought (σ : SS) : Prop := ∃ B acc, JI σ B acc ∧ Fin B
theorem Thought.zero : Thought ss0 :=
  ⟨_, _, JI.zero ⟨0, fun _ => .slice none 0 0, fun _ => 0, fun _ => 0, fun _ => false, fun _ => false, fun _ => false, fun _ => 0, fun _ => .pointer none, 0, true, true, true, true⟩ ⟨rfl, rfl, rfl, rfl⟩ ⟨fun _ => ⟨rfl, rfl, rfl, rfl⟩, fun _ => ⟨rfl, rfl⟩⟩ (fun _ => none), 0, fun _ _ => rfl⟩
theorem Thought.tick {N : Int} {A : Nat} {σ : SS} (hi : XInv N A σ) (hN : N < 3000000) (p : Int) (h : Thought σ) : Thought (tickF p σ).1 := by
  obtain ⟨B, acc, hJ, hF⟩ := h
  obtain ⟨B', h1, h2⟩ := hJ.ghost_tick hi hN p hF
  exact ⟨B', acc, h1, h2⟩
theorem Thought.off {N : Int} {A : Nat} {σ : SS} (hi : XInv N A σ) (h : Thought σ) {m : Nat} (hm : m < 3) (ho : offS σ.x m = 0) (r : Req) : Thought { σ with x := offX σ.x m r } := by
  obtain ⟨B, acc, hJ, hF⟩ := h
  exact ⟨_, _, hJ.off hi hm ho r (.slice none 0 0), hF⟩
theorem Thought.planned {σ : SS} (h : Thought σ) (s : Nat) (pl : PlanD) : Thought { σ with p := upd σ.p s { σ.p s with plans := (σ.p s).plans ++ [pl] } } := by
  obtain ⟨B, acc, hJ, hF⟩ := h
  refine ⟨B, acc, hJ.ports _ (fun t _ => ?_), hF⟩
  by_cases e : t = s
  · subst e; rw [upd_same]
  · rw [upd_ne _ _ _ _ e]
end Go.Proofs.Qxb6500750aDoor
