import Derived.Test.Qxb6500750aDoorAi2
import Derived.Test.Qxb6500750aDoorOnT
namespace Go.Proofs.Qxb6500750aDoor
open Go.RowKit
/-! ### onTick beside the crossbar -/
/-- The lengths of the links' logs. -/
def lens (σ : SS) (s : Nat) : Int := ((σ.p s).atts.length : Nat)
theorem midT_fl {ρ : RepD} {p : Nat → PS} {t nb : Nat} {B : BK} (h : B.fl nb = none) : (midT ρ p t B).fl nb = none := by
  unfold midT
  have hx : ∀ b f f', B.fl b = some f → (setFl B b f').fl nb = none := fun b f f' hb => by
    show upd B.fl b (some f') nb = none
    by_cases e : nb = b
    · rw [e, hb] at h; cases h
    · rw [upd_ne _ _ _ _ e]; exact h
  cases hf : B.fl (ptN (B.a.pt t)) with
  | none => exact h
  | some f =>
    simp only []
    split
    · exact hx _ f _ hf
    · split
      · exact hx _ f _ hf
      · exact h
theorem tick_call {own : Nat → Nat} {w : World} {ab xb : Nat} {pbs : Nat → Nat} {σ : SS} {B : BK} {acc : Nat → List Req} {o : OpD} {N : Int} {A : Nat} (h : AI own w ab xb pbs (stepS σ o) B acc) (J : JI σ B acc) (hi : XInv N A σ) (hN : 0 ≤ N ∧ N < 3000000) (hA : A + 14 < 1000000000) (ho : OpOK o) (hk : o.k = 3) :
    Calls Tryd.prog 46 #[.pointer (some ⟨ab, 0, none⟩), .int .u32 o.a, .agg (encR (tickF o.a σ).2), .agg (encW (wantsB B.a.gr acc B.a.cut)), .agg (seenC (lens σ))] w fun e w' => e = .returned (.tuple #[]) ∧ ∃ B', AI (mark own w.heap.size 15) w' ab xb pbs (stepS σ o) B' acc ∧ JI (stepS σ o) B' acc ∧ Ext own (mark own w.heap.size 15) SA w w' := by
  have hst : stepS σ o = (tickF o.a σ).1 := by unfold stepS; rw [if_neg (by omega), if_neg (by omega), if_neg (by omega), if_pos hk]
  have hnx := hi.step ho hN.1
  rw [hst] at h hnx ⊢
  have T := tickTF hi o.a
  obtain ⟨A2, hi2⟩ := T.inv2
  have hlen : ∀ t, t < 6 → ((tick2 o.a σ).1.p t).atts.length < 1000000000 := fun t ht => Nat.lt_of_le_of_lt (hnx.port t ht).a hA
  have hacc : ∀ m, m < 3 → (acc m).length < 4000000 := fun m hm => by have := J.iss m hm; have := hi.cnt m hm; omega
  refine (onTick_any ab xb pbs (tickF o.a σ).2 (wantsB B.a.gr acc B.a.cut) o.a (lens σ) acc (tickF o.a σ).1.p (fun t B' => JT σ (tick1 σ).1 (tick2 o.a σ).1 (tickF o.a σ).2 B.a t false B') (fun m B' => J2 (tick2 o.a σ).1 (tickF o.a σ).2 B.a m B') B w h.base ho.a (JI.start T J) (fun t ht B' hJ => ⟨JT.roundOK T J hlen hacc ht hJ, fun nb hnb => ?_⟩) (fun B' hJ => J2.of_rounds T J hJ) (fun m hm B' hJ => J2.ok hi2 (by omega) (tick_ret hi o.a) hm hJ)).mono ?_
  · refine JT.gr T acc (fun m hm hlt => ?_) ht (midT_fl hnb) (JT.mid T J.rv ht hJ)
    have hc := hi.cnt m hm
    obtain ⟨q, hq⟩ := Int.eq_ofNat_of_zero_le (show 0 ≤ (σ.x.mp m).gr by omega)
    have h1 := J.req m hm q (by omega) (by omega)
    have h2 := J.wt m hm (σ.x.mp m).gr (Int.le_refl _) hlt
    rw [hq] at h2 ⊢
    exact ⟨h1, h2.2.1⟩
  · rintro e w' ⟨he, B', hJ2, W0, hb, hl⟩
    obtain ⟨h1, h2⟩ := h.tick hb hl
    exact ⟨he, B', h1, JI.of_tick hi o.a J hJ2, h2⟩
end Go.Proofs.Qxb6500750aDoor
