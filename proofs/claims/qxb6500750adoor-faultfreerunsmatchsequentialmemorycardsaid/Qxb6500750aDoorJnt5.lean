import Derived.Test.Qxb6500750aDoorJnt4
namespace Go.Proofs.Qxb6500750aDoor
open Go.RowKit
/-! ### The other steps -/
theorem JI.off {N : Int} {A : Nat} {σ : SS} (h : XInv N A σ) {B : BK} {acc : Nat → List Req} (J : JI σ B acc) {m : Nat} (hm : m < 3) (ho : offS σ.x m = 0) (r : Req) (v : Value) :
    JI { σ with x := offX σ.x m r } { B with a := { B.a with av := upd B.a.av m v, tk := upd B.a.tk m true } } (upd acc m (acc m ++ [r])) := by
  have hiso : (σ.x.mp m).iso = false := by
    unfold offS at ho
    cases hc : (σ.x.mp m).iso
    · rfl
    · rw [hc] at ho; simp at ho
  have h4 : (σ.x.mp m).iss < (σ.x.mp m).rt + 4 := by
    unfold offS at ho
    rw [hiso] at ho
    simp only [Bool.false_eq_true, if_false] at ho
    split at ho
    · omega
    · rename_i hn
      by_cases e : 4 ≤ (σ.x.mp m).iss - (σ.x.mp m).rt
      · exact absurd (.inr e) hn
      · omega
  obtain ⟨c1, c2, c3, c4, c5⟩ := h.cnt m hm
  have hmp : ∀ m', (offX σ.x m r).mp m' = if m' = m then { σ.x.mp m with sl := upd (σ.x.mp m).sl ((σ.x.mp m).iss % 4).toNat ⟨r, 0, ⟨true, (σ.x.mp m).iss, 0, 0, 0, 0⟩⟩, iss := (σ.x.mp m).iss + 1, tk := true } else σ.x.mp m' := fun m' => by unfold offX; rw [setM_get]
  have htp : (offX σ.x m r).tp = σ.x.tp := rfl
  have hf : ∀ m', ((offX σ.x m r).mp m').gr = (σ.x.mp m').gr ∧ ((offX σ.x m r).mp m').rt = (σ.x.mp m').rt ∧ ((offX σ.x m r).mp m').iso = (σ.x.mp m').iso ∧ ((offX σ.x m r).mp m').iss = (if m' = m then (σ.x.mp m').iss + 1 else (σ.x.mp m').iss) ∧ ((offX σ.x m r).mp m').tk = (if m' = m then true else (σ.x.mp m').tk) := fun m' => by
    rw [hmp m']
    by_cases e : m' = m
    · subst e; rw [if_pos rfl, if_pos rfl, if_pos rfl]; exact ⟨rfl, rfl, rfl, rfl, rfl⟩
    · rw [if_neg e, if_neg e, if_neg e]; exact ⟨rfl, rfl, rfl, rfl, rfl⟩
  have hsl : ∀ m', m' < 3 → ∀ q, (σ.x.mp m').rt ≤ q → q < (σ.x.mp m').iss → slq (offX σ.x m r) m' q = slq σ.x m' q := fun m' hm' q h1 h2 => by
    unfold slq
    rw [hmp m']
    by_cases e : m' = m
    · subst e
      rw [if_pos rfl]
      have hne : (q % 4).toNat ≠ ((σ.x.mp m').iss % 4).toNat := fun e => by
        have := window c1 (a := q) (b := (σ.x.mp m').iss) h1 (by omega) (by omega) (by omega) e
        omega
      exact upd_ne _ _ _ _ hne
    · rw [if_neg e]
  have hnew : slq (offX σ.x m r) m (σ.x.mp m).iss = ⟨r, 0, ⟨true, (σ.x.mp m).iss, 0, 0, 0, 0⟩⟩ := by
    unfold slq
    rw [hmp m, if_pos rfl]
    exact upd_same _ _ _
  have hfl : ∀ t, flying (offX σ.x m r) t ↔ flying σ.x t := fun t => Iff.rfl
  have hmo : ∀ t, mo (offX σ.x m r) t = mo σ.x t := fun t => rfl
  refine ⟨⟨J.on.f0, J.on.f1, J.on.f2, J.on.f3⟩, fun m' hm' => ?_, fun m' hm' => ?_, fun m' hm' => ?_, fun m' hm' => ?_, fun m' hm' => ?_, J.turn, J.cut, fun m' hm' hi => ?_, fun m' hm' q h1 h2 => ?_, fun m' hm' q h1 h2 => ?_, fun m' hm' q h1 h2 => ?_, fun t ht hfy => ?_, fun m' hm' q h1 h2 => ?_, fun m' q b hg => ?_, J.inj, J.fls⟩
  · show ((offX σ.x m r).mp m').iss = _
    rw [(hf m').2.2.2.1]
    by_cases e : m' = m
    · subst e; rw [if_pos rfl, upd_same, J.iss m' hm']; simp
    · rw [if_neg e, upd_ne _ _ _ _ e]; exact J.iss m' hm'
  · show B.a.gr m' = ((offX σ.x m r).mp m').gr; rw [(hf m').1]; exact J.gr m' hm'
  · show B.a.rt m' = ((offX σ.x m r).mp m').rt; rw [(hf m').2.1]; exact J.rt m' hm'
  · show upd B.a.tk m true m' = ((offX σ.x m r).mp m').tk
    rw [(hf m').2.2.2.2]
    by_cases e : m' = m
    · subst e; rw [if_pos rfl, upd_same]
    · rw [if_neg e, upd_ne _ _ _ _ e]; exact J.tk m' hm'
  · show B.a.ba m' = ((offX σ.x m r).mp m').iso; rw [(hf m').2.2.1]; exact J.ba m' hm'
  · have hi9 : ((offX σ.x m r).mp m').iso = true := hi
    rw [(hf m').2.2.1] at hi9
    have hne : m' ≠ m := fun e => by rw [e, hiso] at hi9; cases hi9
    show ((offX σ.x m r).mp m').gr = ((offX σ.x m r).mp m').iss
    rw [(hf m').1, (hf m').2.2.2.1, if_neg hne]; exact J.isoW m' hm' hi9
  · replace h1 : ((offX σ.x m r).mp m').rt ≤ (q : Nat) := h1
    replace h2 : ((q : Nat) : Int) < ((offX σ.x m r).mp m').iss := h2
    rw [(hf m').2.1] at h1
    rw [(hf m').2.2.2.1] at h2
    show (upd acc m (acc m ++ [r]) m')[q]? = some (slq (offX σ.x m r) m' (q : Nat)).req
    by_cases e : m' = m
    · subst e
      rw [if_pos rfl] at h2
      rw [upd_same]
      by_cases e2 : ((q : Nat) : Int) = (σ.x.mp m').iss
      · rw [e2, hnew]
        have : q = (acc m').length := by rw [J.iss m' hm'] at e2; omega
        rw [this, List.getElem?_append_right (by omega)]; simp
      · rw [hsl m' hm' _ h1 (by omega), List.getElem?_append_left (by have := J.iss m' hm'; omega)]
        exact J.req m' hm' q h1 (by omega)
    · rw [if_neg e] at h2
      rw [upd_ne _ _ _ _ e, hsl m' hm' _ h1 h2]; exact J.req m' hm' q h1 h2
  · replace h1 : ((offX σ.x m r).mp m').rt ≤ q := h1
    replace h2 : q < ((offX σ.x m r).mp m').iss := h2
    rw [(hf m').2.1] at h1
    rw [(hf m').2.2.2.1] at h2
    show (slq (offX σ.x m r) m' q).ret.va = true ∧ (slq (offX σ.x m r) m' q).ret.sq = q
    by_cases e : m' = m ∧ q = (σ.x.mp m).iss
    · rw [e.1, e.2, hnew]; exact ⟨rfl, rfl⟩
    · have h2' : q < (σ.x.mp m').iss := by
        by_cases e1 : m' = m
        · subst e1; rw [if_pos rfl] at h2
          have : q ≠ (σ.x.mp m').iss := fun e2 => e ⟨rfl, e2⟩
          omega
        · rw [if_neg e1] at h2; exact h2
      rw [hsl m' hm' q h1 h2']; exact J.rv m' hm' q h1 h2'
  · replace h1 : ((offX σ.x m r).mp m').gr ≤ q := h1
    replace h2 : q < ((offX σ.x m r).mp m').iss := h2
    rw [(hf m').1] at h1
    rw [(hf m').2.2.2.1] at h2
    show (slq (offX σ.x m r) m' q).ret.da = 0 ∧ (slq (offX σ.x m r) m' q).ret.re = 0 ∧ (slq (offX σ.x m r) m' q).ret.ca = 0
    by_cases e : m' = m ∧ q = (σ.x.mp m).iss
    · rw [e.1, e.2, hnew]; exact ⟨rfl, rfl, rfl⟩
    · have h2' : q < (σ.x.mp m').iss := by
        by_cases e1 : m' = m
        · subst e1; rw [if_pos rfl] at h2
          have : q ≠ (σ.x.mp m').iss := fun e2 => e ⟨rfl, e2⟩
          omega
        · rw [if_neg e1] at h2; exact h2
      have hc := h.cnt m' hm'
      rw [hsl m' hm' q (by omega) h2']; exact J.wt m' hm' q h1 h2'
  · have ha := J.air t ht hfy
    obtain ⟨g1, g2, _⟩ := h.fly t ht hfy
    have hc := h.cnt _ (mo_lt h ht)
    refine ha.keep rfl rfl ?_ (fun _ => rfl) rfl (fun _ _ _ h => h) (fun _ h => h)
    rw [slotOf_slq, slotOf_slq]
    exact hsl (mo σ.x t) (mo_lt h ht) (σ.x.tp t).sq g1 (Int.lt_of_lt_of_le g2 hc.2.2.1)
  · replace h1 : ((offX σ.x m r).mp m').rt ≤ q := h1
    replace h2 : q < ((offX σ.x m r).mp m').gr := h2
    rw [(hf m').2.1] at h1
    rw [(hf m').1] at h2
    have hc := h.cnt m' hm'
    show (∃ τ, τ < 7 ∧ serves (offX σ.x m r) τ m' q) ∨ LandOK (slq (offX σ.x m r) m' q) _ m' q
    rw [hsl m' hm' q h1 (by omega)]
    exact J.key m' hm' q h1 h2
  · obtain ⟨mn, k1, k2, k3, k4⟩ := J.dom m' q b hg
    exact ⟨mn, k1, k2, by show ((offX σ.x m r).mp mn).rt ≤ q; rw [(hf mn).2.1]; exact k3, by show q < ((offX σ.x m r).mp mn).gr; rw [(hf mn).1]; exact k4⟩
/-- The links' plans alone turned. -/
theorem JI.ports {σ : SS} {B : BK} {acc : Nat → List Req} (J : JI σ B acc) (p : Nat → PS) (hp : ∀ t, t < 6 → (p t).atts = (σ.p t).atts) : JI { σ with p := p } B acc :=
  ⟨J.on, J.iss, J.gr, J.rt, J.tk, J.ba, J.turn, J.cut, J.isoW, J.req, J.rv, J.wt, fun t ht hf => (J.air t ht hf).keep rfl rfl rfl (fun h6 => hp t h6) rfl (fun _ _ _ h => h) (fun _ h => h), J.key, J.dom, J.inj, J.fls⟩
/-- A slave cut off, or joined. -/
theorem JI.isoT {σ : SS} {B : BK} {acc : Nat → List Req} (J : JI σ B acc) (t : Nat) (on : Bool) : JI { σ with x := σ.x.setT t { σ.x.tp t with iso := on } } { B with a := { B.a with cut := upd B.a.cut t on } } acc := by
  have htp : ∀ τ, (σ.x.setT t { σ.x.tp t with iso := on }).tp τ = if τ = t then { σ.x.tp t with iso := on } else σ.x.tp τ := fun τ => setT_get _ _ _ _
  have e4 : ∀ τ, ((σ.x.setT t { σ.x.tp t with iso := on }).tp τ).busy = (σ.x.tp τ).busy ∧ ((σ.x.setT t { σ.x.tp t with iso := on }).tp τ).orph = (σ.x.tp τ).orph ∧ ((σ.x.setT t { σ.x.tp t with iso := on }).tp τ).m = (σ.x.tp τ).m ∧ ((σ.x.setT t { σ.x.tp t with iso := on }).tp τ).sq = (σ.x.tp τ).sq ∧ ((σ.x.setT t { σ.x.tp t with iso := on }).tp τ).turn = (σ.x.tp τ).turn := fun τ => by
    rw [htp]
    by_cases e : τ = t
    · subst e; rw [if_pos rfl]; exact ⟨rfl, rfl, rfl, rfl, rfl⟩
    · rw [if_neg e]; exact ⟨rfl, rfl, rfl, rfl, rfl⟩
  have hfl : ∀ τ, flying (σ.x.setT t { σ.x.tp t with iso := on }) τ ↔ flying σ.x τ := fun τ => by unfold flying; rw [(e4 τ).1, (e4 τ).2.1]
  have hmo : ∀ τ, mo (σ.x.setT t { σ.x.tp t with iso := on }) τ = mo σ.x τ := fun τ => by unfold mo; rw [(e4 τ).2.2.1]
  refine ⟨⟨J.on.f0, J.on.f1, J.on.f2, J.on.f3⟩, J.iss, J.gr, J.rt, J.tk, J.ba, fun τ hτ => ?_, fun τ hτ => ?_, J.isoW, J.req, J.rv, J.wt, fun τ hτ hf => ?_, fun m hm q h1 h2 => ?_, J.dom, J.inj, J.fls⟩
  · exact (J.turn τ hτ).trans (e4 τ).2.2.2.2.symm
  · show upd B.a.cut t on τ = ((σ.x.setT t { σ.x.tp t with iso := on }).tp τ).iso
    rw [htp]
    by_cases e : τ = t
    · subst e; rw [if_pos rfl, upd_same]
    · rw [if_neg e, upd_ne _ _ _ _ e]; exact J.cut τ hτ
  · refine (J.air τ hτ ((hfl τ).1 hf)).keep (e4 τ).2.2.1 (e4 τ).2.2.2.1 ?_ (fun _ => rfl) rfl (fun _ _ _ h => h) (fun _ h => h)
    show slotOf (σ.x.setT t { σ.x.tp t with iso := on }) τ = _
    rw [slotOf_slq, slotOf_slq, hmo, (e4 τ).2.2.2.1]; rfl
  · rcases J.key m hm q h1 h2 with ⟨τ, h7, hs⟩ | hl
    · exact .inl ⟨τ, h7, (hfl τ).2 hs.1, (hmo τ).trans hs.2.1, (e4 τ).2.2.2.1.trans hs.2.2⟩
    · exact .inr hl
/-- A reset. -/
theorem JI.rst {σ : SS} {B : BK} {acc : Nat → List Req} (J : JI σ B acc) (v : Nat → Value) (pt : Nat → Value) (fm : Nat) :
    JI { σ with x := rstX σ.x } { B with a := { B.a with av := v, gr := fun _ => 0, rt := fun _ => 0, tk := fun _ => false, turn := fun _ => 0, pt := pt, fm := fm }, γ := fun _ _ => none } (fun _ => []) := by
  have hm : ∀ m, m < 3 → (rstX σ.x).mp m = mp0 (σ.x.mp m).iso := fun m hm => rstX_mp σ.x m hm
  refine ⟨⟨J.on.f0, J.on.f1, J.on.f2, J.on.f3⟩, fun m h => ?_, fun m h => ?_, fun m h => ?_, fun m h => ?_, fun m h => ?_, fun t h => ?_, fun t h => ?_, fun m h _ => ?_, fun m h q h1 h2 => ?_, fun m h q h1 h2 => ?_, fun m h q h1 h2 => ?_, fun t h hf => ?_, fun m h q h1 h2 => ?_, fun m q b h => (by cases h), fun _ _ _ _ _ h _ => (by cases h), fun _ _ _ h => (by cases h)⟩
  · show ((rstX σ.x).mp m).iss = _; rw [hm m h]; rfl
  · show (0 : Int) = ((rstX σ.x).mp m).gr; rw [hm m h]; rfl
  · show (0 : Int) = ((rstX σ.x).mp m).rt; rw [hm m h]; rfl
  · show false = ((rstX σ.x).mp m).tk; rw [hm m h]; rfl
  · show B.a.ba m = ((rstX σ.x).mp m).iso; rw [hm m h]; exact J.ba m h
  · show (0 : Int) = ((rstX σ.x).tp t).turn; rw [rstX_tp σ.x t h]
  · show B.a.cut t = ((rstX σ.x).tp t).iso; rw [rstX_tp σ.x t h]; exact J.cut t h
  · show ((rstX σ.x).mp m).gr = ((rstX σ.x).mp m).iss; rw [hm m h]; rfl
  · replace h2 : ((q : Nat) : Int) < ((rstX σ.x).mp m).iss := h2
    rw [hm m h] at h2
    replace h2 : ((q : Nat) : Int) < 0 := h2
    omega
  · replace h1 : ((rstX σ.x).mp m).rt ≤ q := h1
    replace h2 : q < ((rstX σ.x).mp m).iss := h2
    rw [hm m h] at h1 h2
    replace h1 : 0 ≤ q := h1
    replace h2 : q < 0 := h2
    omega
  · replace h1 : ((rstX σ.x).mp m).gr ≤ q := h1
    replace h2 : q < ((rstX σ.x).mp m).iss := h2
    rw [hm m h] at h1 h2
    replace h1 : 0 ≤ q := h1
    replace h2 : q < 0 := h2
    omega
  · exfalso
    replace hf : flying (rstX σ.x) t := hf
    unfold flying at hf
    rw [rstX_tp σ.x t h] at hf
    obtain ⟨f1, f2⟩ := hf
    replace f1 : (σ.x.tp t).busy = true := f1
    replace f2 : (σ.x.tp t).busy = false := f2
    rw [f1] at f2; cases f2
  · replace h1 : ((rstX σ.x).mp m).rt ≤ q := h1
    replace h2 : q < ((rstX σ.x).mp m).gr := h2
    rw [hm m h] at h1 h2
    replace h1 : 0 ≤ q := h1
    replace h2 : q < 0 := h2
    omega
end Go.Proofs.Qxb6500750aDoor
