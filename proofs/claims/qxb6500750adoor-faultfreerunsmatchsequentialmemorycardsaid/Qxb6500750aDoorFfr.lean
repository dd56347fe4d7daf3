import Derived.Test.Qxb6500750aDoorFfq
import Derived.Test.Qxb6500750aDoorJnt6
namespace Go.Proofs.Qxb6500750aDoor
open Go.RowKit
/-! ### A run without faults, plain: the steps -/
/-- The response that is handed back is the one that was expected. -/
theorem FF.hands {N : Int} {A : Nat} {σ2 : SS} (hi : XInv N A σ2) {acc : Nat → List Req} {exp : Nat → List Ret} {mem : Int → Int} (h : FF σ2 acc exp mem) {m : Nat} (hm : m < 3) (hh : hands σ2.x m = true) :
    (exp m)[(σ2.x.mp m).rt.toNat]? = some (slq σ2.x m (σ2.x.mp m).rt).ret ∧ (slq σ2.x m (σ2.x.mp m).rt).ret.va = true := by
  obtain ⟨c1, c2, c3, c4, c5⟩ := hi.cnt m hm
  unfold Proofs.Qxb6500750aDoor.hands at hh
  simp only [Bool.and_eq_true, Bool.not_eq_true', beq_eq_false_iff_ne, beq_iff_eq] at hh
  obtain ⟨h1, h2⟩ := hh
  have h2' : (slq σ2.x m (σ2.x.mp m).rt).ph = 2 := h2
  obtain ⟨q, hq⟩ := Int.eq_ofNat_of_zero_le c1
  have hlt : (σ2.x.mp m).rt < (σ2.x.mp m).gr := by
    refine Decidable.byContradiction fun hn => ?_
    have := hi.wait m (σ2.x.mp m).rt hm (by omega) (by omega)
    rw [h2'] at this; cases this
  have hk := h.key m hm q (by omega) (by omega)
  rw [← hq] at hk
  have hr : (exp m)[(σ2.x.mp m).rt.toNat]? = some (slq σ2.x m (σ2.x.mp m).rt).ret := by
    rcases hk with ⟨τ, h7, f1, f2, f3⟩ | ⟨_, k2⟩
    · exfalso
      have := (hi.fly τ h7 f1).2.2
      rw [slotOf_slq, f2, f3, h2'] at this; cases this
    · rw [hq, Int.toNat_natCast, ← hq]; exact k2
  exact ⟨hr, h.va m hm _ (List.mem_of_getElem? hr)⟩
theorem FF.hand {N : Int} {A : Nat} {σ : SS} (hi : XInv N A σ) (p : Int) {acc : Nat → List Req} {exp : Nat → List Ret} {mem : Int → Int} (h : FF (tick2 p σ).1 acc exp mem) : FF (tickF p σ).1 acc exp mem := by
  have T := tickTF hi p
  obtain ⟨A2, hi2⟩ := T.inv2
  obtain ⟨⟨etp, _, _, _⟩, emp, _⟩ := handN_all ((tick2 p σ).1.x, (tick2 p σ).2) 3
  have hmp : ∀ m, m < 3 → (tickF p σ).1.x.mp m = if Proofs.Qxb6500750aDoor.hands (tick2 p σ).1.x m = true then { (tick2 p σ).1.x.mp m with tk := false, rt := ((tick2 p σ).1.x.mp m).rt + 1 } else { (tick2 p σ).1.x.mp m with tk := false } := fun m hm => by
    have := emp m; rw [if_pos hm] at this; exact this
  have htp : (tickF p σ).1.x.tp = (tick2 p σ).1.x.tp := etp
  have hpp : (tickF p σ).1.p = (tick2 p σ).1.p := rfl
  generalize (tick2 p σ).1 = σ2 at *
  generalize (tickF p σ).1 = σ3 at *
  have f1 : ∀ m, m < 3 → (σ3.x.mp m).iss = (σ2.x.mp m).iss ∧ (σ3.x.mp m).gr = (σ2.x.mp m).gr ∧ (σ3.x.mp m).iso = (σ2.x.mp m).iso ∧ (σ3.x.mp m).sl = (σ2.x.mp m).sl ∧ (σ2.x.mp m).rt ≤ (σ3.x.mp m).rt := fun m hm => by
    rw [hmp m hm]
    split
    · exact ⟨rfl, rfl, rfl, rfl, by show _ ≤ (σ2.x.mp m).rt + 1; omega⟩
    · exact ⟨rfl, rfl, rfl, rfl, Int.le_refl _⟩
  have hsl : ∀ m, m < 3 → ∀ q, slq σ3.x m q = slq σ2.x m q := fun m hm q => by unfold slq; rw [(f1 m hm).2.2.2.1]
  have hmo : ∀ t, mo σ3.x t = mo σ2.x t := fun t => by unfold mo; rw [htp]
  refine ⟨fun m hm => ?_, fun t ht => ?_, fun t ht => ?_, fun t ht p hp => ?_, fun m hm => ?_, fun m hm => ?_, fun m hm q h1 h2 => ?_, fun m hm q h1 h2 => ?_, fun t ht hb => ?_, fun m hm q h1 h2 => ?_, fun a ha => ?_, h.va⟩
  · rw [(f1 m hm).2.2.1]; exact h.isoM m hm
  · rw [htp]; exact h.isoT t ht
  · rw [htp]; exact h.orp t ht
  · rw [hpp] at hp; exact h.plan t ht p hp
  · rw [(f1 m hm).1]; exact h.iss m hm
  · rw [(f1 m hm).2.1]; exact h.gr m hm
  · rw [(f1 m hm).1] at h2
    rw [hsl m hm]; exact h.req m hm q (Int.le_trans (f1 m hm).2.2.2.2 h1) h2
  · rw [(f1 m hm).1] at h2
    rw [(f1 m hm).2.1] at h1
    rw [hsl m hm]; exact h.wait m hm q h1 h2
  · rw [htp] at hb
    have hm3 := mo_lt hi2 ht
    obtain ⟨a1, a2, a3⟩ := h.air t ht hb
    refine ⟨?_, ?_, ?_⟩
    · rw [slotOf_slq, hmo, htp, hsl _ hm3, ← slotOf_slq]; exact a1
    · rw [hmo, htp, hpp]; exact a2
    · rw [hpp]; exact a3
  · rw [(f1 m hm).2.1] at h2
    rw [hsl m hm]
    rcases h.key m hm q (Int.le_trans (f1 m hm).2.2.2.2 h1) h2 with ⟨τ, h7, hs⟩ | hk
    · refine .inl ⟨τ, h7, ?_⟩
      unfold serves flying mo at *
      rw [htp]; exact hs
    · exact .inr hk
  · rw [hpp]; exact h.mem a ha
/-- A tick. -/
theorem FF.tick {N : Int} {A : Nat} {σ : SS} (hi : XInv N A σ) (p : Int) {acc : Nat → List Req} {exp : Nat → List Ret} {mem : Int → Int} (h : FF σ acc exp mem) :
    FF (tickF p σ).1 acc (ffN acc (tickF p σ).2 ⟨exp, mem⟩ 7).exp (ffN acc (tickF p σ).2 ⟨exp, mem⟩ 7).mem ∧ (∀ t, t < 7 → (tickF p σ).2.rs t = false ∧ (tickF p σ).2.rp t = false) ∧
    (∀ k, k < 7 → (tickF p σ).2.g k = -1 ∨ ∃ m, m < 3 ∧ (tickF p σ).2.g k = (m : Nat) ∧ ((ffN acc (tickF p σ).2 ⟨exp, mem⟩ k).exp m).length < (acc m).length) ∧
    (∀ m, m < 3 → (((tickF p σ).2.r m).va = true ∧ ((ffN acc (tickF p σ).2 ⟨exp, mem⟩ 7).exp m)[(σ.x.mp m).rt.toNat]? = some ((tickF p σ).2.r m) ∧ ((tickF p σ).1.x.mp m).rt = (σ.x.mp m).rt + 1) ∨ (((tickF p σ).2.r m).va = false ∧ ((tickF p σ).1.x.mp m).rt = (σ.x.mp m).rt)) := by
  have T := tickTF hi p
  have hi1 : XInv N (A + 7) (tick1 σ).1 := hi.collectN rep0 7 (Nat.le_refl _)
  obtain ⟨A2, hi2⟩ := T.inv2
  have hC : ∀ t, t < 7 → ColF σ ((tick1 σ).1, (tick1 σ).2) t := fun t ht => colF hi rep0 (fun _ => ⟨rfl, rfl⟩) 7 (Nat.le_refl _) t ht
  obtain ⟨h1, hrep⟩ := h.collect hi T hC
  have hg : (tickF p σ).2.g = (tick2 p σ).2.g := (handN_all ((tick2 p σ).1.x, (tick2 p σ).2) 3).1.2.1
  have hA : ∀ t, t < 7 → ∀ m, m < 3 → (tickF p σ).2.g t = (m : Nat) → (tick2 p σ).1.p t = if t < 6 then sendP ((tick1 σ).1.p t) ⟨lid (m : Nat) ((tick1 σ).1.x.mp m).gr, (slq (tick1 σ).1.x m ((tick1 σ).1.x.mp m).gr).req.w, (slq (tick1 σ).1.x m ((tick1 σ).1.x.mp m).gr).req.ad, (slq (tick1 σ).1.x m ((tick1 σ).1.x.mp m).gr).req.da⟩ else (tick1 σ).1.p t := fun t ht m hm hgt => by
    rw [hg] at hgt
    exact arbF hi1 p (tick1 σ).2 7 (Nat.le_refl _) t ht m hm hgt
  have hG := h1.grants hi1 T hA
  have h2 := h1.arb hi1 T hA (hG 7 (Nat.le_refl _))
  refine ⟨h2.hand hi p, hrep, fun k hk => ?_, fun m hm => ?_⟩
  · rcases T.outA hk with ⟨e, _⟩ | ⟨m, hm, e, _⟩
    · exact .inl e
    · refine .inr ⟨m, hm, e, ?_⟩
      have hun : ∀ t, t < k → (tickF p σ).2.g t ≠ (m : Nat) := fun t ht he => by
        obtain ⟨ρ2, hAI, e', _⟩ := T.arb
        rw [e'] at he e
        rcases hAI.mp m hm with ⟨_, hno⟩ | ⟨_, t0, _, _, hu⟩
        · exact hno k hk e
        · have a1 := hu t (by omega) he
          have a2 := hu k hk e
          omega
      rw [(hG k (by omega)).no m hm hun]
      have := (h1.route hi1 T hk hm e).1
      have e1 := h1.gr m hm
      have e2 := h1.iss m hm
      omega
  · have hr := tick_ret hi p m hm
    have emp := (handN_all ((tick2 p σ).1.x, (tick2 p σ).2) 3).2.1 m
    rw [if_pos hm] at emp
    have hmp : (tickF p σ).1.x.mp m = if Proofs.Qxb6500750aDoor.hands (tick2 p σ).1.x m = true then { (tick2 p σ).1.x.mp m with tk := false, rt := ((tick2 p σ).1.x.mp m).rt + 1 } else { (tick2 p σ).1.x.mp m with tk := false } := emp
    have hrt := (T.mp2 hm).2.1
    by_cases hh : Proofs.Qxb6500750aDoor.hands (tick2 p σ).1.x m = true
    · rw [if_pos hh] at hr hmp
      obtain ⟨q1, q2⟩ := h2.hands hi2 hm hh
      refine .inl ⟨by rw [hr]; exact q2, ?_, ?_⟩
      · rw [hr, ← hrt]; exact q1
      · rw [hmp]; show ((tick2 p σ).1.x.mp m).rt + 1 = _; rw [hrt]
    · rw [if_neg hh] at hr hmp
      refine .inr ⟨by rw [hr]; rfl, ?_⟩
      rw [hmp]; exact hrt
/-- An offer that is taken. -/
theorem FF.off {N : Int} {A : Nat} {σ : SS} (h : XInv N A σ) {acc : Nat → List Req} {exp : Nat → List Ret} {mem : Int → Int} (J : FF σ acc exp mem) {m : Nat} (hm : m < 3) (ho : offS σ.x m = 0) (r r' : Req) (hs : SameR r' r) :
    FF { σ with x := offX σ.x m r } (upd acc m (acc m ++ [r'])) exp mem := by
  have hiso : (σ.x.mp m).iso = false := J.isoM m hm
  have h4 : (σ.x.mp m).iss < (σ.x.mp m).rt + 4 := by
    unfold offS at ho
    rw [hiso] at ho
    simp only [Bool.false_eq_true, if_false] at ho
    split at ho
    · omega
    · rename_i hn
      by_cases e : 4 ≤ (σ.x.mp m).iss - (σ.x.mp m).rt
      · exact absurd (.inr e) hn
      · omega
  obtain ⟨c1, c2, c3, c4, c5⟩ := h.cnt m hm
  have hmp : ∀ m', (offX σ.x m r).mp m' = if m' = m then { σ.x.mp m with sl := upd (σ.x.mp m).sl ((σ.x.mp m).iss % 4).toNat ⟨r, 0, ⟨true, (σ.x.mp m).iss, 0, 0, 0, 0⟩⟩, iss := (σ.x.mp m).iss + 1, tk := true } else σ.x.mp m' := fun m' => by unfold offX; rw [setM_get]
  have hf : ∀ m', ((offX σ.x m r).mp m').gr = (σ.x.mp m').gr ∧ ((offX σ.x m r).mp m').rt = (σ.x.mp m').rt ∧ ((offX σ.x m r).mp m').iso = (σ.x.mp m').iso ∧ ((offX σ.x m r).mp m').iss = (if m' = m then (σ.x.mp m').iss + 1 else (σ.x.mp m').iss) := fun m' => by
    rw [hmp m']
    by_cases e : m' = m
    · subst e; rw [if_pos rfl, if_pos rfl]; exact ⟨rfl, rfl, rfl, rfl⟩
    · rw [if_neg e, if_neg e]; exact ⟨rfl, rfl, rfl, rfl⟩
  have hsl : ∀ m', m' < 3 → ∀ q, (σ.x.mp m').rt ≤ q → q < (σ.x.mp m').iss → slq (offX σ.x m r) m' q = slq σ.x m' q := fun m' hm' q h1 h2 => by
    unfold slq
    rw [hmp m']
    by_cases e : m' = m
    · subst e
      rw [if_pos rfl]
      have hne : (q % 4).toNat ≠ ((σ.x.mp m').iss % 4).toNat := fun e => by
        have := window c1 (a := q) (b := (σ.x.mp m').iss) h1 (by omega) (by omega) (by omega) e
        omega
      exact upd_ne _ _ _ _ hne
    · rw [if_neg e]
  have hnew : slq (offX σ.x m r) m (σ.x.mp m).iss = ⟨r, 0, ⟨true, (σ.x.mp m).iss, 0, 0, 0, 0⟩⟩ := by
    unfold slq
    rw [hmp m, if_pos rfl]
    exact upd_same _ _ _
  refine ⟨fun m' hm' => ?_, J.isoT, J.orp, J.plan, fun m' hm' => ?_, fun m' hm' => ?_, fun m' hm' q h1 h2 => ?_, fun m' hm' q h1 h2 => ?_, fun t ht hb => ?_, fun m' hm' q h1 h2 => ?_, J.mem, J.va⟩
  · show ((offX σ.x m r).mp m').iso = false
    rw [(hf m').2.2.1]; exact J.isoM m' hm'
  · show ((offX σ.x m r).mp m').iss = _
    rw [(hf m').2.2.2]
    by_cases e : m' = m
    · subst e; rw [if_pos rfl, upd_same, J.iss m' hm']; simp
    · rw [if_neg e, upd_ne _ _ _ _ e]; exact J.iss m' hm'
  · show ((offX σ.x m r).mp m').gr = _; rw [(hf m').1]; exact J.gr m' hm'
  · replace h1 : ((offX σ.x m r).mp m').rt ≤ (q : Nat) := h1
    replace h2 : ((q : Nat) : Int) < ((offX σ.x m r).mp m').iss := h2
    rw [(hf m').2.1] at h1
    rw [(hf m').2.2.2] at h2
    show ∃ s, (upd acc m (acc m ++ [r']) m')[q]? = some s ∧ SameR s (slq (offX σ.x m r) m' (q : Nat)).req
    by_cases e : m' = m
    · subst e
      rw [if_pos rfl] at h2
      rw [upd_same]
      by_cases e2 : ((q : Nat) : Int) = (σ.x.mp m').iss
      · rw [e2, hnew]
        have : q = (acc m').length := by rw [J.iss m' hm'] at e2; omega
        refine ⟨r', ?_, hs⟩
        rw [this, List.getElem?_append_right (by omega)]; simp
      · rw [hsl m' hm' _ h1 (by omega), List.getElem?_append_left (by have := J.iss m' hm'; omega)]
        exact J.req m' hm' q h1 (by omega)
    · rw [if_neg e] at h2
      rw [upd_ne _ _ _ _ e, hsl m' hm' _ h1 h2]; exact J.req m' hm' q h1 h2
  · replace h1 : ((offX σ.x m r).mp m').gr ≤ q := h1
    replace h2 : q < ((offX σ.x m r).mp m').iss := h2
    rw [(hf m').1] at h1
    rw [(hf m').2.2.2] at h2
    show (slq (offX σ.x m r) m' q).ret = _
    by_cases e : m' = m ∧ q = (σ.x.mp m).iss
    · rw [e.1, e.2, hnew]; rfl
    · have h2' : q < (σ.x.mp m').iss := by
        by_cases e1 : m' = m
        · subst e1; rw [if_pos rfl] at h2
          have : q ≠ (σ.x.mp m').iss := fun e2 => e ⟨rfl, e2⟩
          omega
        · rw [if_neg e1] at h2; exact h2
      have hc := h.cnt m' hm'
      rw [hsl m' hm' q (by omega) h2']; exact J.wait m' hm' q h1 h2'
  · have hb' : (σ.x.tp t).busy = true := hb
    obtain ⟨a1, a2, a3⟩ := J.air t ht hb'
    obtain ⟨g1, g2, _⟩ := h.fly t ht ⟨hb', J.orp t ht⟩
    have hc := h.cnt _ (mo_lt h ht)
    refine ⟨?_, a2, a3⟩
    show (slotOf (offX σ.x m r) t).ret = _
    have e : slotOf (offX σ.x m r) t = slotOf σ.x t := by
      rw [slotOf_slq, slotOf_slq]
      exact hsl (mo σ.x t) (mo_lt h ht) (σ.x.tp t).sq g1 (Int.lt_of_lt_of_le g2 hc.2.2.1)
    rw [e]; exact a1
  · replace h1 : ((offX σ.x m r).mp m').rt ≤ (q : Nat) := h1
    replace h2 : ((q : Nat) : Int) < ((offX σ.x m r).mp m').gr := h2
    rw [(hf m').2.1] at h1
    rw [(hf m').1] at h2
    have hc := h.cnt m' hm'
    show (∃ τ, τ < 7 ∧ serves (offX σ.x m r) τ m' (q : Nat)) ∨ ((slq (offX σ.x m r) m' (q : Nat)).ph = 2 ∧ (exp m')[q]? = some (slq (offX σ.x m r) m' (q : Nat)).ret)
    rw [hsl m' hm' _ h1 (by omega)]
    exact J.key m' hm' q h1 h2
/-- A plan more. -/
theorem FF.planned {σ : SS} {acc : Nat → List Req} {exp : Nat → List Ret} {mem : Int → Int} (J : FF σ acc exp mem) (s : Nat) (l : Int) (hl : l < 64) :
    FF { σ with p := upd σ.p s { σ.p s with plans := (σ.p s).plans ++ [⟨0, l⟩] } } acc exp mem := by
  have hk : ∀ t, (upd σ.p s { σ.p s with plans := (σ.p s).plans ++ [⟨0, l⟩] } t).rda = (σ.p t).rda ∧ (upd σ.p s { σ.p s with plans := (σ.p s).plans ++ [⟨0, l⟩] } t).rst = (σ.p t).rst ∧ (upd σ.p s { σ.p s with plans := (σ.p s).plans ++ [⟨0, l⟩] } t).due = (σ.p t).due ∧ (upd σ.p s { σ.p s with plans := (σ.p s).plans ++ [⟨0, l⟩] } t).mem = (σ.p t).mem := fun t => by
    by_cases e : t = s
    · subst e; rw [upd_same]; exact ⟨rfl, rfl, rfl, rfl⟩
    · rw [upd_ne _ _ _ _ e]; exact ⟨rfl, rfl, rfl, rfl⟩
  refine ⟨J.isoM, J.isoT, J.orp, fun t ht p hp => ?_, J.iss, J.gr, J.req, J.wait, fun t ht hb => ?_, J.key, fun a ha => ?_, J.va⟩
  · have hp : p ∈ (upd σ.p s { σ.p s with plans := (σ.p s).plans ++ [⟨0, l⟩] } t).plans := hp
    by_cases e : t = s
    · subst e
      rw [upd_same] at hp
      rcases List.mem_append.1 hp with hp | hp
      · exact J.plan t ht p hp
      · rw [List.mem_singleton.1 hp]; exact ⟨rfl, hl⟩
    · rw [upd_ne _ _ _ _ e] at hp; exact J.plan t ht p hp
  · obtain ⟨a1, a2, a3⟩ := J.air t ht hb
    obtain ⟨k1, k2, k3, _⟩ := hk t
    refine ⟨a1, ?_, ?_⟩
    · show _ = some (if t < 6 then retOK (σ.x.tp t).sq 0 (upd σ.p s { σ.p s with plans := (σ.p s).plans ++ [⟨0, l⟩] } t).rda else retOK (σ.x.tp t).sq 2 0)
      rw [k1]; exact a2
    · show t < 6 → (upd σ.p s { σ.p s with plans := (σ.p s).plans ++ [⟨0, l⟩] } t).rst = 0 ∧ (upd σ.p s { σ.p s with plans := (σ.p s).plans ++ [⟨0, l⟩] } t).due ≠ 0
      rw [k2, k3]; exact a3
  · show (upd σ.p s { σ.p s with plans := (σ.p s).plans ++ [⟨0, l⟩] } (dec a)).mem a = mem a
    rw [(hk _).2.2.2]; exact J.mem a ha
theorem FF.zero : FF ss0 (fun _ => []) (fun _ => []) (fun _ => 0) := by
  refine ⟨fun m _ => rfl, fun t _ => rfl, fun t _ => rfl, fun t _ p hp => ?_, fun m _ => rfl, fun m _ => rfl, fun m _ q h1 h2 => ?_, fun m _ q h1 h2 => ?_, fun t _ hb => ?_, fun m _ q h1 h2 => ?_, fun a _ => rfl, fun m _ r hr => ?_⟩
  · cases hp
  · replace h2 : ((q : Nat) : Int) < 0 := h2; omega
  · replace h1 : (0 : Int) ≤ q := h1
    replace h2 : q < (0 : Int) := h2; omega
  · cases hb
  · replace h2 : ((q : Nat) : Int) < 0 := h2; omega
  · cases hr
end Go.Proofs.Qxb6500750aDoor
