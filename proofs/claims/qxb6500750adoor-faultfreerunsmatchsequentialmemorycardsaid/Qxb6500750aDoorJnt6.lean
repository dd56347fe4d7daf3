import Derived.Test.Qxb6500750aDoorJnt5
namespace Go.Proofs.Qxb6500750aDoor
open Go.RowKit
/-! ### A master cut off, or joined -/
theorem cancelN_all (m : Nat) (x : XS) (h0 : 0 ≤ (x.mp m).rt) (h1 : (x.mp m).rt ≤ (x.mp m).gr) (h4 : (x.mp m).iss ≤ (x.mp m).rt + 4) : ∀ n : Nat, (x.mp m).gr + n ≤ (x.mp m).iss →
    (cancelN m n x).tp = x.tp ∧ (∀ m', m' ≠ m → (cancelN m n x).mp m' = x.mp m') ∧ ((cancelN m n x).mp m).iss = (x.mp m).iss ∧ ((cancelN m n x).mp m).rt = (x.mp m).rt ∧ ((cancelN m n x).mp m).tk = (x.mp m).tk ∧ ((cancelN m n x).mp m).iso = (x.mp m).iso ∧ ((cancelN m n x).mp m).gr = (x.mp m).gr + n ∧
    ∀ q, (x.mp m).rt ≤ q → q < (x.mp m).rt + 4 → slq (cancelN m n x) m q = if (x.mp m).gr ≤ q ∧ q < (x.mp m).gr + n then cancelS (slq x m q) else slq x m q
  | 0, _ => ⟨rfl, fun _ _ => rfl, rfl, rfl, rfl, rfl, by show (x.mp m).gr = (x.mp m).gr + ((0 : Nat) : Int); omega, fun q _ _ => by rw [if_neg (by omega)]; rfl⟩
  | n + 1, hn => by
    obtain ⟨a1, a2, a3, a4, a5, a6, a7, a8⟩ := cancelN_all m x h0 h1 h4 n (by omega)
    rw [show cancelN m (n + 1) x = cancelT (cancelN m n x) m from rfl]
    generalize cancelN m n x = y at *
    have hmp : ∀ m', (cancelT y m).mp m' = if m' = m then { y.mp m with sl := upd (y.mp m).sl ((y.mp m).gr % 4).toNat (cancelS ((y.mp m).sl ((y.mp m).gr % 4).toNat)), gr := (y.mp m).gr + 1 } else y.mp m' := fun m' => by unfold cancelT; rw [setM_get]
    refine ⟨a1, fun m' hne => ?_, ?_, ?_, ?_, ?_, ?_, fun q k1 k2 => ?_⟩
    · show (cancelT y m).mp m' = _; rw [hmp, if_neg hne]; exact a2 m' hne
    · show ((cancelT y m).mp m).iss = _; rw [hmp, if_pos rfl]; exact a3
    · show ((cancelT y m).mp m).rt = _; rw [hmp, if_pos rfl]; exact a4
    · show ((cancelT y m).mp m).tk = _; rw [hmp, if_pos rfl]; exact a5
    · show ((cancelT y m).mp m).iso = _; rw [hmp, if_pos rfl]; exact a6
    · show ((cancelT y m).mp m).gr = _; rw [hmp, if_pos rfl]; show (y.mp m).gr + 1 = _; rw [a7]; omega
    · show slq (cancelT y m) m q = _
      have e0 : slq (cancelT y m) m q = if (q % 4).toNat = ((y.mp m).gr % 4).toNat then cancelS (slq y m (y.mp m).gr) else slq y m q := by
        unfold slq
        rw [hmp, if_pos rfl]
        by_cases e : (q % 4).toNat = ((y.mp m).gr % 4).toNat
        · rw [if_pos e, e]; exact upd_same _ _ _
        · rw [if_neg e]; exact upd_ne _ _ _ _ e
      rw [e0]
      by_cases e : q = (x.mp m).gr + n
      · rw [if_pos (by rw [a7, e]), if_pos (by omega), a7, a8 _ (by omega) (by omega), if_neg (by omega), e]
      · have hne : (q % 4).toNat ≠ ((y.mp m).gr % 4).toNat := fun e2 => by
          rw [a7] at e2
          exact e (window h0 k1 k2 (by omega) (by omega) e2)
        rw [if_neg hne, a8 q k1 k2]
        by_cases e3 : (x.mp m).gr ≤ q ∧ q < (x.mp m).gr + n
        · rw [if_pos e3, if_pos (by omega)]
        · rw [if_neg e3, if_neg (by omega)]
theorem JI.isoOff {σ : SS} {B : BK} {acc : Nat → List Req} (J : JI σ B acc) (m : Nat) : JI { σ with x := σ.x.setM m { σ.x.mp m with iso := false } } { B with a := { B.a with ba := upd B.a.ba m false } } acc := by
  have hmp : ∀ m', ((σ.x.setM m { σ.x.mp m with iso := false }).mp m').iss = (σ.x.mp m').iss ∧ ((σ.x.setM m { σ.x.mp m with iso := false }).mp m').gr = (σ.x.mp m').gr ∧ ((σ.x.setM m { σ.x.mp m with iso := false }).mp m').rt = (σ.x.mp m').rt ∧ ((σ.x.setM m { σ.x.mp m with iso := false }).mp m').tk = (σ.x.mp m').tk ∧ ((σ.x.setM m { σ.x.mp m with iso := false }).mp m').sl = (σ.x.mp m').sl ∧ ((σ.x.setM m { σ.x.mp m with iso := false }).mp m').iso = (if m' = m then false else (σ.x.mp m').iso) := fun m' => by
    rw [setM_get]
    by_cases e : m' = m
    · subst e; rw [if_pos rfl, if_pos rfl]; exact ⟨rfl, rfl, rfl, rfl, rfl, rfl⟩
    · rw [if_neg e, if_neg e]; exact ⟨rfl, rfl, rfl, rfl, rfl, rfl⟩
  have hsl : ∀ m' q, slq (σ.x.setM m { σ.x.mp m with iso := false }) m' q = slq σ.x m' q := fun m' q => by unfold slq; rw [(hmp m').2.2.2.2.1]
  refine ⟨⟨J.on.f0, J.on.f1, J.on.f2, J.on.f3⟩, fun m' h => (hmp m').1.trans (J.iss m' h), fun m' h => (J.gr m' h).trans (hmp m').2.1.symm, fun m' h => (J.rt m' h).trans (hmp m').2.2.1.symm, fun m' h => (J.tk m' h).trans (hmp m').2.2.2.1.symm, fun m' h => ?_, J.turn, J.cut, fun m' h hi => ?_, fun m' h q h1 h2 => ?_, fun m' h q h1 h2 => ?_, fun m' h q h1 h2 => ?_, fun t h hf => ?_, fun m' h q h1 h2 => ?_, fun m' q b hg => ?_, J.inj, J.fls⟩
  · show upd B.a.ba m false m' = ((σ.x.setM m { σ.x.mp m with iso := false }).mp m').iso
    rw [(hmp m').2.2.2.2.2]
    by_cases e : m' = m
    · subst e; rw [if_pos rfl, upd_same]
    · rw [if_neg e, upd_ne _ _ _ _ e]; exact J.ba m' h
  · replace hi : ((σ.x.setM m { σ.x.mp m with iso := false }).mp m').iso = true := hi
    rw [(hmp m').2.2.2.2.2] at hi
    show ((σ.x.setM m { σ.x.mp m with iso := false }).mp m').gr = ((σ.x.setM m { σ.x.mp m with iso := false }).mp m').iss
    rw [(hmp m').1, (hmp m').2.1]
    by_cases e : m' = m
    · rw [if_pos e] at hi; cases hi
    · rw [if_neg e] at hi; exact J.isoW m' h hi
  · rw [(hmp m').2.2.1] at h1
    rw [(hmp m').1] at h2
    show _ = some (slq (σ.x.setM m { σ.x.mp m with iso := false }) m' _).req
    rw [hsl]; exact J.req m' h q h1 h2
  · rw [(hmp m').2.2.1] at h1
    rw [(hmp m').1] at h2
    show (slq (σ.x.setM m { σ.x.mp m with iso := false }) m' q).ret.va = true ∧ (slq (σ.x.setM m { σ.x.mp m with iso := false }) m' q).ret.sq = q
    rw [hsl]; exact J.rv m' h q h1 h2
  · rw [(hmp m').2.1] at h1
    rw [(hmp m').1] at h2
    show (slq (σ.x.setM m { σ.x.mp m with iso := false }) m' q).ret.da = 0 ∧ (slq (σ.x.setM m { σ.x.mp m with iso := false }) m' q).ret.re = 0 ∧ (slq (σ.x.setM m { σ.x.mp m with iso := false }) m' q).ret.ca = 0
    rw [hsl]; exact J.wt m' h q h1 h2
  · refine (J.air t h hf).keep rfl rfl ?_ (fun _ => rfl) rfl (fun _ _ _ h => h) (fun _ h => h)
    exact hsl _ _
  · rw [(hmp m').2.2.1] at h1
    rw [(hmp m').2.1] at h2
    show (∃ τ, τ < 7 ∧ serves (σ.x.setM m { σ.x.mp m with iso := false }) τ m' q) ∨ LandOK (slq (σ.x.setM m { σ.x.mp m with iso := false }) m' q) _ m' q
    rw [hsl]; exact J.key m' h q h1 h2
  · obtain ⟨mn, k1, k2, k3, k4⟩ := J.dom m' q b hg
    exact ⟨mn, k1, k2, by rw [(hmp mn).2.2.1]; exact k3, by rw [(hmp mn).2.1]; exact k4⟩
theorem JI.isoOn {N : Int} {A : Nat} {σ : SS} (h : XInv N A σ) {B : BK} {acc : Nat → List Req} (J : JI σ B acc) {m : Nat} (hm : m < 3) :
    JI { σ with x := isoM σ.x m true } { B with a := { B.a with ba := upd B.a.ba m true, gr := upd B.a.gr m ((acc m).length : Nat) } } acc := by
  obtain ⟨c1, c2, c3, c4, c5⟩ := h.cnt m hm
  have hx1 : ∀ m', ((σ.x.setM m { σ.x.mp m with iso := true }).mp m') = if m' = m then { σ.x.mp m with iso := true } else σ.x.mp m' := fun m' => setM_get _ _ _ _
  have hself := hx1 m
  rw [if_pos rfl] at hself
  have hn : (σ.x.mp m).gr + (((σ.x.mp m).iss - (σ.x.mp m).gr).toNat : Nat) = (σ.x.mp m).iss := by omega
  obtain ⟨a1, a2, a3, a4, a5, a6, a7, a8⟩ := cancelN_all m (σ.x.setM m { σ.x.mp m with iso := true }) (by rw [hself]; exact c1) (by rw [hself]; exact c2) (by rw [hself]; exact c4) ((σ.x.mp m).iss - (σ.x.mp m).gr).toNat (by rw [hself]; show (σ.x.mp m).gr + _ ≤ (σ.x.mp m).iss; omega)
  rw [hself] at a3 a4 a5 a6 a7
  have hX : isoM σ.x m true = cancelN m ((σ.x.mp m).iss - (σ.x.mp m).gr).toNat (σ.x.setM m { σ.x.mp m with iso := true }) := rfl
  rw [hX]
  generalize cancelN m ((σ.x.mp m).iss - (σ.x.mp m).gr).toNat (σ.x.setM m { σ.x.mp m with iso := true }) = y at *
  replace a3 : (y.mp m).iss = (σ.x.mp m).iss := a3
  replace a4 : (y.mp m).rt = (σ.x.mp m).rt := a4
  replace a5 : (y.mp m).tk = (σ.x.mp m).tk := a5
  replace a6 : (y.mp m).iso = true := a6
  replace a7 : (y.mp m).gr = (σ.x.mp m).iss := a7.trans hn
  have b2 : ∀ m', m' ≠ m → y.mp m' = σ.x.mp m' := fun m' hne => by rw [a2 m' hne, hx1, if_neg hne]
  have hs0 : ∀ q, slq (σ.x.setM m { σ.x.mp m with iso := true }) m q = slq σ.x m q := fun q => by unfold slq; rw [hself]
  have b8 : ∀ q, (σ.x.mp m).rt ≤ q → q < (σ.x.mp m).iss → slq y m q = if (σ.x.mp m).gr ≤ q then cancelS (slq σ.x m q) else slq σ.x m q := fun q k1 k2 => by
    have := a8 q (by rw [hself]; exact k1) (by rw [hself]; show q < (σ.x.mp m).rt + 4; omega)
    rw [hself, hs0] at this
    rw [this]
    by_cases e : (σ.x.mp m).gr ≤ q
    · rw [if_pos e, if_pos ⟨e, by show q < (σ.x.mp m).gr + _; rw [hn]; exact k2⟩]
    · rw [if_neg e, if_neg (fun hh => e hh.1)]
  have btp : y.tp = σ.x.tp := a1
  have hmo : ∀ t, mo y t = mo σ.x t := fun t => by unfold mo; rw [btp]
  have hfl : ∀ t, flying y t ↔ flying σ.x t := fun t => by unfold flying; rw [btp]
  -- an old slot
  have hold : ∀ m', m' < 3 → ∀ q, (σ.x.mp m').rt ≤ q → q < (σ.x.mp m').gr → slq y m' q = slq σ.x m' q := fun m' hm' q k1 k2 => by
    by_cases e : m' = m
    · subst e; rw [b8 q k1 (by omega), if_neg (by omega)]
    · unfold slq; rw [b2 m' e]
  have hfld : ∀ m', m' < 3 → (y.mp m').iss = (σ.x.mp m').iss ∧ (y.mp m').rt = (σ.x.mp m').rt ∧ (y.mp m').tk = (σ.x.mp m').tk ∧ (y.mp m').gr = (if m' = m then (σ.x.mp m').iss else (σ.x.mp m').gr) ∧ (y.mp m').iso = (if m' = m then true else (σ.x.mp m').iso) := fun m' _ => by
    by_cases e : m' = m
    · subst e; rw [if_pos rfl, if_pos rfl]; exact ⟨a3, a4, a5, a7, a6⟩
    · rw [if_neg e, if_neg e, b2 m' e]; exact ⟨rfl, rfl, rfl, rfl, rfl⟩
  have hreq : ∀ m', m' < 3 → ∀ q, (σ.x.mp m').rt ≤ q → q < (σ.x.mp m').iss → (slq y m' q).req = (slq σ.x m' q).req ∧ (slq y m' q).ret.va = (slq σ.x m' q).ret.va ∧ (slq y m' q).ret.sq = (slq σ.x m' q).ret.sq := fun m' hm' q k1 k2 => by
    by_cases e : m' = m
    · subst e; rw [b8 q k1 k2]; split
      · exact ⟨rfl, rfl, rfl⟩
      · exact ⟨rfl, rfl, rfl⟩
    · have : slq y m' q = slq σ.x m' q := by unfold slq; rw [b2 m' e]
      rw [this]; exact ⟨rfl, rfl, rfl⟩
  refine ⟨⟨J.on.f0, J.on.f1, J.on.f2, J.on.f3⟩, fun m' h' => (hfld m' h').1.trans (J.iss m' h'), fun m' h' => ?_, fun m' h' => (J.rt m' h').trans (hfld m' h').2.1.symm, fun m' h' => (J.tk m' h').trans (hfld m' h').2.2.1.symm, fun m' h' => ?_, fun t h' => ?_, fun t h' => ?_, fun m' h' hi => ?_, fun m' h' q h1 h2 => ?_, fun m' h' q h1 h2 => ?_, fun m' h' q h1 h2 => ?_, fun t h' hf => ?_, fun m' h' q h1 h2 => ?_, fun m' q b hg => ?_, J.inj, J.fls⟩
  · show upd B.a.gr m _ m' = (y.mp m').gr
    rw [(hfld m' h').2.2.2.1]
    by_cases e : m' = m
    · subst e; rw [if_pos rfl, upd_same, J.iss m' h']
    · rw [if_neg e, upd_ne _ _ _ _ e]; exact J.gr m' h'
  · show upd B.a.ba m true m' = (y.mp m').iso
    rw [(hfld m' h').2.2.2.2]
    by_cases e : m' = m
    · subst e; rw [if_pos rfl, upd_same]
    · rw [if_neg e, upd_ne _ _ _ _ e]; exact J.ba m' h'
  · show B.a.turn t = (y.tp t).turn; rw [btp]; exact J.turn t h'
  · show B.a.cut t = (y.tp t).iso; rw [btp]; exact J.cut t h'
  · replace hi : (y.mp m').iso = true := hi
    rw [(hfld m' h').2.2.2.2] at hi
    show (y.mp m').gr = (y.mp m').iss
    rw [(hfld m' h').1, (hfld m' h').2.2.2.1]
    by_cases e : m' = m
    · rw [if_pos e]
    · rw [if_neg e] at hi ⊢; exact J.isoW m' h' hi
  · replace h1 : (y.mp m').rt ≤ (q : Nat) := h1
    replace h2 : ((q : Nat) : Int) < (y.mp m').iss := h2
    rw [(hfld m' h').2.1] at h1
    rw [(hfld m' h').1] at h2
    show _ = some (slq y m' _).req
    rw [(hreq m' h' _ h1 h2).1]; exact J.req m' h' q h1 h2
  · replace h1 : (y.mp m').rt ≤ q := h1
    replace h2 : q < (y.mp m').iss := h2
    rw [(hfld m' h').2.1] at h1
    rw [(hfld m' h').1] at h2
    show (slq y m' q).ret.va = true ∧ (slq y m' q).ret.sq = q
    rw [(hreq m' h' _ h1 h2).2.1, (hreq m' h' _ h1 h2).2.2]; exact J.rv m' h' q h1 h2
  · replace h1 : (y.mp m').gr ≤ q := h1
    replace h2 : q < (y.mp m').iss := h2
    rw [(hfld m' h').2.2.2.1] at h1
    rw [(hfld m' h').1] at h2
    by_cases e : m' = m
    · rw [if_pos e] at h1; omega
    · rw [if_neg e] at h1
      show (slq y m' q).ret.da = 0 ∧ (slq y m' q).ret.re = 0 ∧ (slq y m' q).ret.ca = 0
      have : slq y m' q = slq σ.x m' q := by unfold slq; rw [b2 m' e]
      rw [this]; exact J.wt m' h' q h1 h2
  · replace hf : flying y t := hf
    have hf0 := (hfl t).1 hf
    obtain ⟨g1, g2, _⟩ := h.fly t h' hf0
    refine (J.air t h' hf0).keep (by show (y.tp t).m = _; rw [btp]) (by show (y.tp t).sq = _; rw [btp]) ?_ (fun _ => rfl) rfl (fun _ _ _ h => h) (fun _ h => h)
    show slotOf y t = _
    rw [slotOf_slq, slotOf_slq, hmo, btp]
    exact hold _ (mo_lt h h') _ g1 g2
  · replace h1 : (y.mp m').rt ≤ q := h1
    replace h2 : q < (y.mp m').gr := h2
    rw [(hfld m' h').2.1] at h1
    rw [(hfld m' h').2.2.2.1] at h2
    show (∃ τ, τ < 7 ∧ serves y τ m' q) ∨ LandOK (slq y m' q) _ m' q
    by_cases hg : q < (σ.x.mp m').gr
    · rw [hold m' h' q h1 hg]
      rcases J.key m' h' q h1 hg with ⟨τ, h7, hs⟩ | hl
      · exact .inl ⟨τ, h7, (hfl τ).2 hs.1, (hmo τ).trans hs.2.1, by rw [btp]; exact hs.2.2⟩
      · exact .inr hl
    · right
      have e : m' = m := by
        by_cases e : m' = m
        · exact e
        · rw [if_neg e] at h2; exact absurd h2 hg
      subst e
      rw [if_pos rfl] at h2
      rw [b8 q h1 h2, if_pos (by omega)]
      obtain ⟨v1, v2⟩ := J.rv m' h' q h1 h2
      obtain ⟨u1, u2, u3⟩ := J.wt m' h' q (by omega) h2
      refine ⟨rfl, v1, v2, .inl ⟨?_, rfl, u1, u2, u3⟩⟩
      show B.γ (m' : Nat) q = none
      cases hγ : B.γ (m' : Nat) q with
      | none => rfl
      | some b =>
        obtain ⟨mn, _, e2, _, k4⟩ := J.dom _ _ _ hγ
        have : mn = m' := by omega
        subst this
        exact absurd k4 hg
  · obtain ⟨mn, k1, k2, k3, k4⟩ := J.dom m' q b hg
    have hc := h.cnt mn k1
    refine ⟨mn, k1, k2, by show (y.mp mn).rt ≤ q; rw [(hfld mn k1).2.1]; exact k3, ?_⟩
    show q < (y.mp mn).gr
    rw [(hfld mn k1).2.2.2.1]
    split
    · omega
    · exact k4
theorem JI.zero (a : AU) (ha : AllOn a) (hb : (∀ m, a.gr m = 0 ∧ a.rt m = 0 ∧ a.tk m = false ∧ a.ba m = false) ∧ ∀ t, a.turn t = 0 ∧ a.cut t = false) (fl : Nat → Option FL) : JI ss0 ⟨a, fun _ _ => none, fl⟩ (fun _ => []) := by
  refine ⟨ha, fun _ _ => rfl, fun m _ => (hb.1 m).1, fun m _ => (hb.1 m).2.1, fun m _ => (hb.1 m).2.2.1, fun m _ => (hb.1 m).2.2.2, fun t _ => (hb.2 t).1, fun t _ => (hb.2 t).2, fun _ _ _ => rfl, fun m _ q h1 h2 => ?_, fun m _ q h1 h2 => ?_, fun m _ q h1 h2 => ?_, fun t _ hf => ?_, fun m _ q h1 h2 => ?_, fun _ _ _ h => (by cases h), fun _ _ _ _ _ h _ => (by cases h), fun _ _ _ h => (by cases h)⟩
  · replace h2 : ((q : Nat) : Int) < 0 := h2; omega
  · replace h1 : 0 ≤ q := h1; replace h2 : q < 0 := h2; omega
  · replace h1 : 0 ≤ q := h1; replace h2 : q < 0 := h2; omega
  · have hf1 : (false : Bool) = true := hf.1
    cases hf1
  · replace h1 : 0 ≤ q := h1; replace h2 : q < 0 := h2; omega
end Go.Proofs.Qxb6500750aDoor
