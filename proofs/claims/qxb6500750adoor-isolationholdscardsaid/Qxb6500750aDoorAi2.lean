import Derived.Test.Qxb6500750aDoorAi
import Derived.Test.Qxb6500750aDoorOnI4
namespace Go.Proofs.Qxb6500750aDoor
open Go.RowKit
/-! ### onIssue, all cases -/
theorem stepS_iss (σ : SS) (o : OpD) (hk : o.k = 0 ∨ o.k = 1) : stepS σ o = { σ with x := issX σ.x o.a (if o.k = 0 then ⟨false, o.b, 0⟩ else ⟨true, o.b, o.c⟩) } := by
  unfold stepS
  rcases hk with h | h
  · rw [if_pos h, if_pos h]
  · rw [if_neg (by omega), if_pos h, if_neg (by omega)]
theorem issue_call {own : Nat → Nat} {w : World} {ab xb : Nat} {pbs : Nat → Nat} {σ : SS} {B : BK} {acc : Nat → List Req} {o : OpD} {N : Int} {A : Nat} (h : AI own w ab xb pbs (stepS σ o) B acc) (J : JI σ B acc) (hi : XInv N A σ) (hN : N < 3000000) (ho : OpOK o) (hk : o.k = 0 ∨ o.k = 1) :
    Calls Tryd.prog 45 #[.pointer (some ⟨ab, 0, none⟩), .agg (opC o), .agg (encOb (stepO σ o))] w fun e w' => e = .returned (.tuple #[]) ∧ ∃ own' B' acc', AI own' w' ab xb pbs (stepS σ o) B' acc' ∧ JI (stepS σ o) B' acc' ∧ Ext own own' SA w w' ∧ B'.a.rg = B.a.rg := by
  obtain ⟨o0, o1, o2, o3⟩ := J.on
  have hst := stepS_iss σ o hk
  have hob : stepO σ o = ⟨decide (3 ≤ o.a), issS σ.x o.a, issQ σ.x o.a, rep0⟩ := by unfold stepO; rw [if_pos hk]
  have hquiet : ∀ e w', (e = Ending.returned (.tuple #[]) ∧ Below w.heap.size w w') → stepS σ o = σ → (e = .returned (.tuple #[]) ∧ ∃ own' B' acc', AI own' w' ab xb pbs (stepS σ o) B' acc' ∧ JI (stepS σ o) B' acc' ∧ Ext own own' SA w w' ∧ B'.a.rg = B.a.rg) := fun e w' hh hs => by
    refine ⟨hh.1, own, B, acc, h.below hh.2, by rw [hs]; exact J, Ext.of_below hh.2, rfl⟩
  have ha0 := ho.a.1
  have hG : w.cell? ⟨B.a.rg, 0, none⟩ = some (.pointer (some ⟨xb, 0, none⟩)) := by rw [h.rr.blk.cell, gg_0]
  have hX := h.rr.x.blk
  have hA := h.bk.blk
  have hne : B.a.rg ≠ ab := h.rr.blk.ne_of_T hA (by decide)
  have hnx : xb ≠ ab := hX.ne_of_T hA (by decide)
  rw [hob]
  by_cases h3 : 3 ≤ o.a
  · have hs : stepS σ o = σ := by rw [hst]; unfold issX; rw [if_pos h3]
    have e1 : encOb ⟨decide (3 ≤ o.a), issS σ.x o.a, issQ σ.x o.a, rep0⟩ = encO true 2 0 rep0 := by
      unfold encOb issS issQ; simp only [if_pos h3, decide_eq_true h3]
    rw [e1]
    exact (onIssue_no ab B.a o h3 o0 w hA).mono fun e w' hh => hquiet e w' hh hs
  · obtain ⟨m, hm⟩ := Int.eq_ofNat_of_zero_le ha0
    have hm3 : m < 3 := by omega
    have hmt : o.a.toNat = m := by omega
    obtain ⟨c1, c2, c3, c4, c5⟩ := hi.cnt m hm3
    have hiss := J.iss m hm3
    have hrt := J.rt m hm3
    obtain ⟨ad, cap, hav⟩ := (h.av m hm3).form'
    have hn : (acc m).length < 4000000 := by omega
    have hS := h.av m hm3
    have hne2 : ∀ k, (B.a.av m).ownBlock = some k → k ≠ B.a.rg := h.rr.blk.sl_ne (by decide) hS
    have hd : decide (3 ≤ o.a) = false := decide_eq_false h3
    by_cases hz : offS σ.x m = 0
    · have hiso : (σ.x.mp m).iso = false := by
        unfold offS at hz
        cases hc : (σ.x.mp m).iso
        · rfl
        · rw [hc, if_pos rfl] at hz; omega
      have htk : (σ.x.mp m).tk = false ∧ (σ.x.mp m).iss - (σ.x.mp m).rt < 4 := by
        unfold offS at hz
        rw [if_neg (by rw [hiso]; decide)] at hz
        by_cases hc : (σ.x.mp m).tk = true ∨ 4 ≤ (σ.x.mp m).iss - (σ.x.mp m).rt
        · rw [if_pos hc] at hz; omega
        · refine ⟨?_, by omega⟩
          cases ht : (σ.x.mp m).tk
          · rfl
          · exact absurd (.inl ht) hc
      obtain ⟨r, hr⟩ : ∃ r : Req, (if o.k = 0 then (⟨false, o.b, 0⟩ : Req) else ⟨true, o.b, o.c⟩) = r := ⟨_, rfl⟩
      have hrad : 0 ≤ r.ad ∧ r.ad < 4294967296 := by
        rw [← hr]; split <;> exact ho.b
      have hs : stepS σ o = { σ with x := offX σ.x m r } := by rw [hst, hr]; unfold issX; rw [if_neg h3, hmt, if_pos hz]
      have e1 : encOb ⟨decide (3 ≤ o.a), issS σ.x o.a, issQ σ.x o.a, rep0⟩ = encO false 0 (((acc m).length : Nat) : Int) rep0 := by
        unfold encOb issS issQ; simp only [if_neg h3, hd, hmt, hz, if_true]; rw [hiss]
      rw [e1]
      rw [hs] at h hX
      have hi' : ((offX σ.x m r).mp m).iss = ((acc m).length : Nat) + 1 := by unfold offX; rw [setM_mp]; rw [hiss]
      have hr' : ((offX σ.x m r).mp m).rt = B.a.rt m := by unfold offX; rw [setM_mp]; exact hrt.symm
      have hfin : ∀ e w', (e = Ending.returned (.tuple #[]) ∧ TakenPost ab (acc m).length B.a m (acc m ++ [r]) w w') → (e = .returned (.tuple #[]) ∧ ∃ own' B' acc', AI own' w' ab xb pbs (stepS σ o) B' acc' ∧ JI (stepS σ o) B' acc' ∧ Ext own own' SA w w' ∧ B'.a.rg = B.a.rg) := fun e w' hh => by
        obtain ⟨v', h1, h2⟩ := h.taken hm3 r hrad hh.2
        rw [hs]
        exact ⟨hh.1, _, _, _, h1, J.off hi hm3 hz r v', h2, rfl⟩
      rcases hk with hk | hk
      · rw [if_pos hk] at hr
        subst hr
        exact (onIssue_read ab xb m (acc m).length (lk pbs) (offX σ.x m ⟨false, o.b, 0⟩) B.a o (acc m) hm3 hk hm o0 (by rw [J.ba m hm3]; exact hiso) (by rw [J.tk m hm3]; exact htk.1) hn rfl hi' hr' (by rw [hrt]; exact c1) (by rw [hrt]; omega) (by rw [hrt]; omega) w hA hS hG hX hne hne2 hnx).mono hfin
      · rw [if_neg (by omega)] at hr
        subst hr
        exact (onIssue_write ab xb m (acc m).length (lk pbs) (offX σ.x m ⟨true, o.b, o.c⟩) B.a o (acc m) hm3 hk hm o0 (by rw [J.ba m hm3]; exact hiso) (by rw [J.tk m hm3]; exact htk.1) hn rfl hi' hr' (by rw [hrt]; exact c1) (by rw [hrt]; omega) (by rw [hrt]; omega) w hA hS hG hX hne hne2 hnx).mono hfin
    · have hs : stepS σ o = σ := by rw [hst]; unfold issX; rw [if_neg h3, hmt, if_neg hz]
      rw [hs] at hX
      by_cases hiso : (σ.x.mp m).iso = true
      · have e1 : encOb ⟨decide (3 ≤ o.a), issS σ.x o.a, issQ σ.x o.a, rep0⟩ = encO false 2 0 rep0 := by
          unfold encOb issS issQ; simp only [if_neg h3, hd, hmt, if_neg hz]; unfold offS; rw [if_pos hiso]
        rw [e1]
        exact (onIssue_barred ab xb m (acc m).length (lk pbs) σ.x B.a o hm3 hm o0 o2 (by rw [J.ba m hm3]; exact hiso) ad cap hav hn hiss hrt.symm (by rw [hrt]; exact c1) (by rw [hrt]; omega) (by rw [hrt]; omega) w hA hG hX hne).mono fun e w' hh => hquiet e w' hh hs
      · have hst1 : (σ.x.mp m).tk = true ∨ 4 ≤ (σ.x.mp m).iss - (σ.x.mp m).rt := by
          unfold offS at hz
          rw [if_neg hiso] at hz
          by_cases hc : (σ.x.mp m).tk = true ∨ 4 ≤ (σ.x.mp m).iss - (σ.x.mp m).rt
          · exact hc
          · rw [if_neg hc] at hz; exact absurd rfl hz
        have e1 : encOb ⟨decide (3 ≤ o.a), issS σ.x o.a, issQ σ.x o.a, rep0⟩ = encO false 1 0 rep0 := by
          unfold encOb issS issQ; simp only [if_neg h3, hd, hmt, if_neg hz]; unfold offS; rw [if_neg hiso, if_pos hst1]
        rw [e1]
        exact (onIssue_stalled ab xb m (acc m).length (lk pbs) σ.x B.a o hm3 hm o0 (by rw [J.ba m hm3]; simpa using hiso) (by rw [J.tk m hm3, hrt]; rcases hst1 with h | h; exact .inl h; exact .inr (by omega)) ad cap hav hn hiss hrt.symm (by rw [hrt]; exact c1) (by rw [hrt]; omega) (by rw [hrt]; omega) w hA hG hX hne).mono fun e w' hh => hquiet e w' hh hs
end Go.Proofs.Qxb6500750aDoor
