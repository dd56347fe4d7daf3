import Derived.Test.Qxb6500750aDoorXInv
namespace Go.Proofs.Qxb6500750aDoor
open Go.RowKit
/-! ### The counters of one master turned, its slots kept -/
theorem XInv.master {N : Int} {A : Nat} {σ : SS} (h : XInv N A σ) {m : Nat} (a : MP) (hsl : a.sl = (σ.x.mp m).sl) (hgr : a.gr = (σ.x.mp m).gr) (his : a.iss = (σ.x.mp m).iss)
    (hrt : (σ.x.mp m).rt ≤ a.rt) (hrg : a.rt ≤ a.gr) (hfl : ∀ t, t < 7 → flying σ.x t → mo σ.x t = m → a.rt ≤ (σ.x.tp t).sq) : XInv N A ⟨σ.x.setM m a, σ.p⟩ := by
  have hS : ∀ m' s, ((σ.x.setM m a).mp m').sl s = (σ.x.mp m').sl s := fun m' s => by
    rw [setM_get]; split
    · rename_i e; rw [e, hsl]
    · rfl
  have hI : ∀ m', ((σ.x.setM m a).mp m').iss = (σ.x.mp m').iss := fun m' => by
    rw [setM_get]; split
    · rename_i e; rw [e, his]
    · rfl
  have hG : ∀ m', ((σ.x.setM m a).mp m').gr = (σ.x.mp m').gr := fun m' => by
    rw [setM_get]; split
    · rename_i e; rw [e, hgr]
    · rfl
  have hR : ∀ m', ((σ.x.setM m a).mp m').rt = if m' = m then a.rt else (σ.x.mp m').rt := fun m' => by
    rw [setM_get]; split <;> rfl
  refine ⟨h.tm, h.tsq, h.turn, h.sg, h.sr, h.sp, ?_, ?_, ?_, ?_, ?_, h.dist, h.orp, h.busy, h.port⟩
  · intro m' s hm hs; rw [hS]; exact h.re m' s hm hs
  · intro m' s hm hs; rw [hS]; exact h.ad m' s hm hs
  · intro m' hm
    have hc := h.cnt m' hm
    rw [hR, hG, hI]
    split
    · rename_i e; subst e; rw [hgr] at hrg; omega
    · exact hc
  · intro m' q hm h1 h2
    rw [hG] at h1; rw [hI] at h2
    unfold slq; rw [hS]; exact h.wait m' q hm h1 h2
  · intro t ht hf
    obtain ⟨g1, g2, g3⟩ := h.fly t ht hf
    show ((σ.x.setM m a).mp (mo σ.x t)).rt ≤ (σ.x.tp t).sq ∧ (σ.x.tp t).sq < ((σ.x.setM m a).mp (mo σ.x t)).gr ∧ (((σ.x.setM m a).mp (mo σ.x t)).sl ((σ.x.tp t).sq % 4).toNat).ph = 1
    rw [hR, hG, hS]
    refine ⟨?_, g2, g3⟩
    split
    · rename_i e; exact hfl t ht hf e
    · exact g1
theorem XInv.handT {N : Int} {A : Nat} {σ : SS} {c : XS × RepD} (h : XInv N A ⟨c.1, σ.p⟩) {k : Nat} (hk : k < 3) : XInv N A ⟨(handT k c).1, σ.p⟩ := by
  unfold Qxb6500750aDoor.handT
  by_cases hh : hands c.1 k = true
  · rw [if_pos hh]
    unfold hands at hh
    simp only [Bool.and_eq_true, Bool.not_eq_true', beq_eq_false_iff_ne, beq_iff_eq] at hh
    obtain ⟨hne, hph⟩ := hh
    obtain ⟨c1, c2, c3, c4, c5⟩ : 0 ≤ (c.1.mp k).rt ∧ (c.1.mp k).rt ≤ (c.1.mp k).gr ∧ (c.1.mp k).gr ≤ (c.1.mp k).iss ∧ (c.1.mp k).iss ≤ (c.1.mp k).rt + 4 ∧ (c.1.mp k).iss ≤ N := h.cnt k hk
    have hlt : (c.1.mp k).rt < (c.1.mp k).gr := by
      by_cases e : (c.1.mp k).rt < (c.1.mp k).gr
      · exact e
      · have := h.wait k (c.1.mp k).rt hk (by show (c.1.mp k).gr ≤ _; omega) (by show _ < (c.1.mp k).iss; omega)
        unfold slq at this
        rw [show ((⟨c.1, σ.p⟩ : SS).x) = c.1 from rfl, hph] at this
        omega
    refine h.master (m := k) { c.1.mp k with tk := false, rt := (c.1.mp k).rt + 1 } rfl rfl rfl (by show (c.1.mp k).rt ≤ (c.1.mp k).rt + 1; omega) (by show (c.1.mp k).rt + 1 ≤ (c.1.mp k).gr; omega) (fun t ht hf e => ?_)
    obtain ⟨g1, g2, g3⟩ := h.fly t ht hf
    rw [e] at g1
    show (c.1.mp k).rt + 1 ≤ (c.1.tp t).sq
    by_cases e2 : (c.1.tp t).sq = (c.1.mp k).rt
    · exfalso
      unfold slotOf at g3
      have e' : (c.1.tp t).m.toNat = k := e
      rw [show ((⟨c.1, σ.p⟩ : SS).x) = c.1 from rfl, e', e2, hph] at g3
      omega
    · have : (c.1.mp k).rt ≤ (c.1.tp t).sq := g1
      omega
  · rw [if_neg hh]
    obtain ⟨c1, c2, c3, c4, c5⟩ : 0 ≤ (c.1.mp k).rt ∧ (c.1.mp k).rt ≤ (c.1.mp k).gr ∧ (c.1.mp k).gr ≤ (c.1.mp k).iss ∧ (c.1.mp k).iss ≤ (c.1.mp k).rt + 4 ∧ (c.1.mp k).iss ≤ N := h.cnt k hk
    exact h.master (m := k) { c.1.mp k with tk := false } rfl rfl rfl (Int.le_refl _) c2 (fun t ht hf e => by have := (h.fly t ht hf).1; rw [e] at this; exact this)
theorem XInv.handN {N : Int} {A : Nat} {σ : SS} (h : XInv N A σ) (ρ : RepD) : ∀ k, k ≤ 3 → XInv N A ⟨(handN k (σ.x, ρ)).1, σ.p⟩
  | 0, _ => h
  | k + 1, hk => XInv.handT (σ := σ) (XInv.handN h ρ k (by omega)) (by omega)
theorem XInv.tickOK {N : Int} {A : Nat} {σ : SS} (h : XInv N A σ) (p : Int) (hp : 0 ≤ p ∧ p < 4294967296) (hA : A + 14 < 1000000000) (hN : N < 4294967295) : TickOK p σ := by
  have h1 : XInv N (A + 7) (tick1 σ).1 := h.collectN rep0 7 (by omega)
  have h2 : XInv N (A + 7 + 7) (tick2 p σ).1 := (h1.arbN p (tick1 σ).2 7 (by omega)).1
  refine ⟨hp.1, hp.2, fun k hk => (h.collectN rep0 k (by omega)).colOK (by omega) hk, fun m hm => ⟨?_, fun s hs => h1.ad m s hm hs⟩, fun k hk => ((h1.arbN p (tick1 σ).2 k (by omega)).1).arbOK (by omega) hN hk, fun m hm => ?_⟩
  · have := h1.cnt m hm; omega
  · have := h2.cnt m hm; omega
theorem XInv.tickF {N : Int} {A : Nat} {σ : SS} (h : XInv N A σ) (p : Int) : XInv N (A + 14) (tickF p σ).1 := by
  have h1 : XInv N (A + 7) (tick1 σ).1 := h.collectN rep0 7 (by omega)
  have h2 : XInv N (A + 7 + 7) (tick2 p σ).1 := (h1.arbN p (tick1 σ).2 7 (by omega)).1
  exact h2.handN (tick2 p σ).2 3 (by omega)
/-! ### An offer taken -/
theorem XInv.off {N : Int} {A : Nat} {σ : SS} (h : XInv N A σ) {m : Nat} (hm : m < 3) (r : Req) (hr : 0 ≤ r.ad ∧ r.ad < 4294967296) (h4 : (σ.x.mp m).iss - (σ.x.mp m).rt < 4) : XInv (N + 1) A ⟨offX σ.x m r, σ.p⟩ := by
  obtain ⟨c1, c2, c3, c4, c5⟩ := h.cnt m hm
  have hmp : ∀ m', (offX σ.x m r).mp m' = if m' = m then { σ.x.mp m with sl := upd (σ.x.mp m).sl ((σ.x.mp m).iss % 4).toNat ⟨r, 0, ⟨true, (σ.x.mp m).iss, 0, 0, 0, 0⟩⟩, iss := (σ.x.mp m).iss + 1, tk := true } else σ.x.mp m' := fun m' => rfl
  have hrt : ∀ m', ((offX σ.x m r).mp m').rt = (σ.x.mp m').rt := fun m' => by rw [hmp]; split <;> simp_all
  have hgr : ∀ m', ((offX σ.x m r).mp m').gr = (σ.x.mp m').gr := fun m' => by rw [hmp]; split <;> simp_all
  have his : ∀ m', ((offX σ.x m r).mp m').iss = if m' = m then (σ.x.mp m).iss + 1 else (σ.x.mp m').iss := fun m' => by rw [hmp]; split <;> simp_all
  have hsl : ∀ m' s', ((offX σ.x m r).mp m').sl s' = if m' = m ∧ s' = ((σ.x.mp m).iss % 4).toNat then ⟨r, 0, ⟨true, (σ.x.mp m).iss, 0, 0, 0, 0⟩⟩ else (σ.x.mp m').sl s' := fun m' s' => by
    rw [hmp]
    by_cases e : m' = m
    · subst e
      by_cases e2 : s' = ((σ.x.mp m').iss % 4).toNat
      · subst e2; simp [upd]
      · simp [e2, upd]
    · simp [e]
  refine ⟨h.tm, h.tsq, h.turn, h.sg, h.sr, h.sp, ?_, ?_, ?_, ?_, ?_, h.dist, h.orp, h.busy, h.port⟩
  · intro m' s' hm' hs'; rw [hsl]; split
    · exact Int.le_refl _
    · exact h.re m' s' hm' hs'
  · intro m' s' hm' hs'; rw [hsl]; split
    · exact hr
    · exact h.ad m' s' hm' hs'
  · intro m' hm'
    have hc := h.cnt m' hm'
    rw [hrt, hgr, his]
    split
    · rename_i e; subst e; omega
    · omega
  · intro m' q hm' h1 h2
    rw [hgr] at h1; rw [his] at h2
    unfold slq; rw [hsl]
    split
    · rfl
    · rename_i hn
      refine h.wait m' q hm' h1 ?_
      by_cases e : m' = m
      · subst e
        rw [if_pos rfl] at h2
        by_cases e2 : q = (σ.x.mp m').iss
        · exact absurd ⟨rfl, by rw [e2]⟩ hn
        · omega
      · rw [if_neg e] at h2; exact h2
  · intro t ht hf
    obtain ⟨g1, g2, g3⟩ := h.fly t ht hf
    have hm' : mo σ.x t < 3 := by have := h.tm t ht; unfold mo; omega
    show ((offX σ.x m r).mp (mo σ.x t)).rt ≤ (σ.x.tp t).sq ∧ (σ.x.tp t).sq < ((offX σ.x m r).mp (mo σ.x t)).gr ∧ (((offX σ.x m r).mp (mo σ.x t)).sl ((σ.x.tp t).sq % 4).toNat).ph = 1
    rw [hrt, hgr, hsl]
    refine ⟨g1, g2, ?_⟩
    rw [if_neg]
    · exact g3
    · rintro ⟨e1, e2⟩
      rw [e1] at g1 g2
      have := window c1 g1 (by omega) (by omega) (by omega) e2
      omega
theorem XInv.issue {N : Int} {A : Nat} {σ : SS} (h : XInv N A σ) (a : Int) (ha : 0 ≤ a) (r : Req) (hr : 0 ≤ r.ad ∧ r.ad < 4294967296) : XInv (N + 1) A { σ with x := issX σ.x a r } := by
  have hmono : XInv (N + 1) A σ := { h with cnt := fun m hm => by have := h.cnt m hm; omega }
  unfold issX
  by_cases h3 : 3 ≤ a
  · rw [if_pos h3]; exact hmono
  · rw [if_neg h3]
    by_cases h0 : offS σ.x a.toNat = 0
    · rw [if_pos h0]
      refine h.off (by omega) r hr ?_
      unfold offS at h0
      split at h0
      · omega
      · split at h0
        · omega
        · rename_i hn; omega
    · rw [if_neg h0]; exact hmono
theorem XInv.issOK {N : Int} {A : Nat} {σ : SS} (h : XInv N A σ) (hN : N < 4294967295) : IssOK σ.x :=
  ⟨fun m hm => by have := h.cnt m hm; omega, fun m hm => by have := h.cnt m hm; omega, fun m hm => by have := h.cnt m hm; omega⟩
theorem XInv.isoOK {N : Int} {A : Nat} {σ : SS} (h : XInv N A σ) (hN : N < 4294967295) : IsoOK σ.x :=
  ⟨fun m hm => by have := h.cnt m hm; omega, fun m hm => by have := h.cnt m hm; omega, fun m hm => by have := h.cnt m hm; omega⟩
/-! ### Isolate, Reset, Plan -/
theorem XInv.cancel {N : Int} {A : Nat} {σ : SS} (h : XInv N A σ) {m : Nat} (hm : m < 3) (hg : (σ.x.mp m).gr < (σ.x.mp m).iss) : XInv N A ⟨cancelT σ.x m, σ.p⟩ := by
  obtain ⟨c1, c2, c3, c4, c5⟩ := h.cnt m hm
  have hmp : ∀ m', (cancelT σ.x m).mp m' = if m' = m then { σ.x.mp m with sl := upd (σ.x.mp m).sl ((σ.x.mp m).gr % 4).toNat (cancelS ((σ.x.mp m).sl ((σ.x.mp m).gr % 4).toNat)), gr := (σ.x.mp m).gr + 1 } else σ.x.mp m' := fun m' => rfl
  have hrt : ∀ m', ((cancelT σ.x m).mp m').rt = (σ.x.mp m').rt := fun m' => by rw [hmp]; split <;> simp_all
  have his : ∀ m', ((cancelT σ.x m).mp m').iss = (σ.x.mp m').iss := fun m' => by rw [hmp]; split <;> simp_all
  have hgr : ∀ m', ((cancelT σ.x m).mp m').gr = if m' = m then (σ.x.mp m).gr + 1 else (σ.x.mp m').gr := fun m' => by rw [hmp]; split <;> simp_all
  have hsl : ∀ m' s', ((cancelT σ.x m).mp m').sl s' = if m' = m ∧ s' = ((σ.x.mp m).gr % 4).toNat then cancelS ((σ.x.mp m).sl ((σ.x.mp m).gr % 4).toNat) else (σ.x.mp m').sl s' := fun m' s' => by
    rw [hmp]
    by_cases e : m' = m
    · subst e
      by_cases e2 : s' = ((σ.x.mp m').gr % 4).toNat
      · subst e2; simp [upd]
      · simp [e2, upd]
    · simp [e]
  refine ⟨h.tm, h.tsq, h.turn, h.sg, h.sr, h.sp, ?_, ?_, ?_, ?_, ?_, h.dist, h.orp, h.busy, h.port⟩
  · intro m' s' hm' hs'; rw [hsl]; split
    · exact h.re m _ hm (by omega)
    · exact h.re m' s' hm' hs'
  · intro m' s' hm' hs'; rw [hsl]; split
    · exact h.ad m _ hm (by omega)
    · exact h.ad m' s' hm' hs'
  · intro m' hm'
    have hc := h.cnt m' hm'
    rw [hrt, hgr, his]
    split
    · rename_i e; subst e; omega
    · exact hc
  · intro m' q hm' h1 h2
    rw [hgr] at h1; rw [his] at h2
    unfold slq; rw [hsl]
    by_cases e : m' = m
    · subst e
      rw [if_pos rfl] at h1
      rw [if_neg (fun hh => by have := window c1 (by omega) (by omega) c2 (by omega) hh.2; omega)]
      exact h.wait m' q hm' (by omega) h2
    · rw [if_neg e] at h1
      rw [if_neg (fun hh => e hh.1)]
      exact h.wait m' q hm' h1 h2
  · intro t ht hf
    obtain ⟨g1, g2, g3⟩ := h.fly t ht hf
    show ((cancelT σ.x m).mp (mo σ.x t)).rt ≤ (σ.x.tp t).sq ∧ (σ.x.tp t).sq < ((cancelT σ.x m).mp (mo σ.x t)).gr ∧ (((cancelT σ.x m).mp (mo σ.x t)).sl ((σ.x.tp t).sq % 4).toNat).ph = 1
    rw [hrt, hgr, hsl]
    by_cases e : mo σ.x t = m
    · rw [e] at g1 g2
      have g3' : ((σ.x.mp (mo σ.x t)).sl ((σ.x.tp t).sq % 4).toNat).ph = 1 := g3
      rw [e] at g3' ⊢
      rw [if_pos rfl, if_neg (fun hh => by have := window c1 g1 (by omega) c2 (by omega) hh.2; omega)]
      exact ⟨g1, by omega, g3'⟩
    · rw [if_neg e, if_neg (fun hh => e hh.1)]
      exact ⟨g1, g2, g3⟩
theorem XInv.cancelN {N : Int} {A : Nat} {σ : SS} (h : XInv N A σ) {m : Nat} (hm : m < 3) : ∀ k : Nat, (σ.x.mp m).gr + k ≤ (σ.x.mp m).iss → XInv N A ⟨cancelN m k σ.x, σ.p⟩
  | 0, _ => h
  | k + 1, hk => by
    have h1 := XInv.cancelN h hm k (by omega)
    obtain ⟨e1, e2⟩ := cancelN_mp m k σ.x
    exact h1.cancel hm (by show ((Qxb6500750aDoor.cancelN m k σ.x).mp m).gr < ((Qxb6500750aDoor.cancelN m k σ.x).mp m).iss; rw [e1, e2]; omega)
theorem XInv.iso {N : Int} {A : Nat} {σ : SS} (h : XInv N A σ) (i : Int) (on : Bool) : XInv N A { σ with x := isoX σ.x i on } := by
  unfold isoX
  by_cases h9 : i < 0 ∨ 9 ≤ i
  · rw [if_pos h9]; exact h
  · rw [if_neg h9]
    by_cases h3 : 3 ≤ i
    · rw [if_pos h3]
      have ht : (i - 3).toNat < 7 := by omega
      generalize (i - 3).toNat = t at *
      have hT : ∀ t', ((σ.x.setT t { σ.x.tp t with iso := on }).tp t').busy = (σ.x.tp t').busy ∧ ((σ.x.setT t { σ.x.tp t with iso := on }).tp t').orph = (σ.x.tp t').orph ∧ ((σ.x.setT t { σ.x.tp t with iso := on }).tp t').m = (σ.x.tp t').m ∧ ((σ.x.setT t { σ.x.tp t with iso := on }).tp t').sq = (σ.x.tp t').sq ∧ ((σ.x.setT t { σ.x.tp t with iso := on }).tp t').turn = (σ.x.tp t').turn := by
        intro t'
        rw [setT_get]
        split
        · rename_i e; subst e; exact ⟨rfl, rfl, rfl, rfl, rfl⟩
        · exact ⟨rfl, rfl, rfl, rfl, rfl⟩
      have hmo : ∀ t', mo (σ.x.setT t { σ.x.tp t with iso := on }) t' = mo σ.x t' := fun t' => by unfold mo; rw [(hT t').2.2.1]
      have hfl : ∀ t', flying (σ.x.setT t { σ.x.tp t with iso := on }) t' → flying σ.x t' := fun t' hf => by unfold flying at hf ⊢; rw [(hT t').1, (hT t').2.1] at hf; exact hf
      refine ⟨?_, ?_, ?_, h.sg, h.sr, h.sp, h.re, h.ad, h.cnt, h.wait, ?_, ?_, ?_, ?_, h.port⟩
      · intro t' ht'; show 0 ≤ ((σ.x.setT t _).tp t').m ∧ _; rw [(hT t').2.2.1]; exact h.tm t' ht'
      · intro t' ht'; show 0 ≤ ((σ.x.setT t _).tp t').sq; rw [(hT t').2.2.2.1]; exact h.tsq t' ht'
      · intro t' ht'; show 0 ≤ ((σ.x.setT t _).tp t').turn ∧ _; rw [(hT t').2.2.2.2]; exact h.turn t' ht'
      · intro t' ht' hf'
        have := h.fly t' ht' (hfl t' hf')
        show ((σ.x.setT t _).mp (mo (σ.x.setT t _) t')).rt ≤ ((σ.x.setT t _).tp t').sq ∧ _
        unfold slotOf
        rw [hmo, (hT t').2.2.2.1, (hT t').2.2.1]
        exact this
      · intro t1 t2 h1 h2 f1 f2 hne
        have := h.dist t1 t2 h1 h2 (hfl t1 f1) (hfl t2 f2) hne
        show ¬ (mo (σ.x.setT t _) t1 = mo (σ.x.setT t _) t2 ∧ ((σ.x.setT t _).tp t1).sq = ((σ.x.setT t _).tp t2).sq)
        rw [hmo, hmo, (hT t1).2.2.2.1, (hT t2).2.2.2.1]
        exact this
      · intro t' ht'; show ((σ.x.setT t _).tp t').orph = true → ((σ.x.setT t _).tp t').busy = true; rw [(hT t').1, (hT t').2.1]; exact h.orp t' ht'
      · intro t' ht'; show ((σ.x.setT t _).tp t').busy = _; rw [(hT t').1]; exact h.busy t' ht'
    · rw [if_neg h3]
      have hm : i.toNat < 3 := by omega
      generalize i.toNat = m at *
      obtain ⟨c1, c2, c3, c4, c5⟩ := h.cnt m hm
      have h1 := h.master (m := m) { σ.x.mp m with iso := on } rfl rfl rfl (Int.le_refl _) c2 (fun t ht hf e => by have := (h.fly t ht hf).1; rw [e] at this; exact this)
      unfold isoM
      cases on
      · exact h1
      · simp only [if_true]
        refine h1.cancelN hm _ ?_
        show ((σ.x.setM m { σ.x.mp m with iso := true }).mp m).gr + _ ≤ ((σ.x.setM m { σ.x.mp m with iso := true }).mp m).iss
        rw [setM_mp]
        show (σ.x.mp m).gr + (((σ.x.mp m).iss - (σ.x.mp m).gr).toNat : Nat) ≤ (σ.x.mp m).iss
        omega
theorem rstM_all (x : XS) (m : Nat) (hm : m < 3) : (rstM 3 x).mp m = mp0 (x.mp m).iso := by
  have : m = 0 ∨ m = 1 ∨ m = 2 := by omega
  rcases this with rfl | rfl | rfl <;> rfl
theorem rstM_tp (n : Nat) (x : XS) : (rstM n x).tp = x.tp := by
  induction n with
  | zero => rfl
  | succ n ih => exact ih
theorem rstT_all (x : XS) (t : Nat) (ht : t < 7) : (rstT 7 x).tp t = { x.tp t with orph := (x.tp t).busy, turn := 0 } := by
  rcases seven t ht with rfl | rfl | rfl | rfl | rfl | rfl | rfl <;> rfl
theorem rstT_mp (n : Nat) (x : XS) : (rstT n x).mp = x.mp := by
  induction n with
  | zero => rfl
  | succ n ih => exact ih
theorem rstX_mp (x : XS) (m : Nat) (hm : m < 3) : (rstX x).mp m = mp0 (x.mp m).iso := by
  show (rstT 7 (rstM 3 x)).mp m = _
  rw [rstT_mp]; exact rstM_all x m hm
theorem rstX_tp (x : XS) (t : Nat) (ht : t < 7) : (rstX x).tp t = { x.tp t with orph := (x.tp t).busy, turn := 0 } := by
  show (rstT 7 (rstM 3 x)).tp t = _
  rw [rstT_all _ t ht, rstM_tp]
theorem XInv.rst {N : Int} {A : Nat} {σ : SS} (h : XInv N A σ) (hN : 0 ≤ N) : XInv N A { σ with x := rstX σ.x } := by
  have hnf : ∀ t, t < 7 → ¬ flying (rstX σ.x) t := fun t ht hf => by
    unfold flying at hf
    rw [rstX_tp _ _ ht] at hf
    obtain ⟨f1, f2⟩ := hf
    have a : (σ.x.tp t).busy = true := f1
    have b : (σ.x.tp t).busy = false := f2
    rw [a] at b; cases b
  refine ⟨?_, ?_, ?_, fun t _ => ⟨Int.le_refl _, by show (0 : Int) < 4294967296; decide⟩, fun t _ => ⟨Int.le_refl _, by show (0 : Int) < 4294967296; decide⟩, fun t _ => ⟨Int.le_refl _, by show (0 : Int) < 4294967296; decide⟩, ?_, ?_, ?_, ?_, fun t ht hf => absurd hf (hnf t ht), fun t1 _ h1 _ f1 => absurd f1 (hnf t1 h1), ?_, ?_, h.port⟩
  · intro t ht; show 0 ≤ ((rstX σ.x).tp t).m ∧ ((rstX σ.x).tp t).m < 3; rw [rstX_tp _ _ ht]; exact h.tm t ht
  · intro t ht; show 0 ≤ ((rstX σ.x).tp t).sq; rw [rstX_tp _ _ ht]; exact h.tsq t ht
  · intro t ht; show 0 ≤ ((rstX σ.x).tp t).turn ∧ ((rstX σ.x).tp t).turn < 3; rw [rstX_tp _ _ ht]; exact ⟨Int.le_refl _, by show (0 : Int) < 3; decide⟩
  · intro m s hm hs; show 0 ≤ (((rstX σ.x).mp m).sl s).ret.re; rw [rstX_mp _ _ hm]; exact Int.le_refl _
  · intro m s hm hs; show 0 ≤ (((rstX σ.x).mp m).sl s).req.ad ∧ (((rstX σ.x).mp m).sl s).req.ad < 4294967296; rw [rstX_mp _ _ hm]; exact ⟨Int.le_refl _, by show (0 : Int) < 4294967296; decide⟩
  · intro m hm
    show 0 ≤ ((rstX σ.x).mp m).rt ∧ ((rstX σ.x).mp m).rt ≤ ((rstX σ.x).mp m).gr ∧ ((rstX σ.x).mp m).gr ≤ ((rstX σ.x).mp m).iss ∧ ((rstX σ.x).mp m).iss ≤ ((rstX σ.x).mp m).rt + 4 ∧ ((rstX σ.x).mp m).iss ≤ N
    rw [rstX_mp _ _ hm]
    exact ⟨Int.le_refl _, Int.le_refl _, Int.le_refl _, by show (0 : Int) ≤ 0 + 4; decide, hN⟩
  · intro m q hm h1 h2
    have h1' : ((rstX σ.x).mp m).gr ≤ q := h1
    have h2' : q < ((rstX σ.x).mp m).iss := h2
    rw [rstX_mp _ _ hm] at h1' h2'
    have a : (0 : Int) ≤ q := h1'
    have b : q < 0 := h2'
    omega
  · intro t ht; show ((rstX σ.x).tp t).orph = true → ((rstX σ.x).tp t).busy = true; rw [rstX_tp _ _ ht]; exact fun h => h
  · intro t ht; show ((rstX σ.x).tp t).busy = (σ.p t).busy; rw [rstX_tp _ _ (by omega)]; exact h.busy t ht
theorem ss0_inv : XInv 0 0 ss0 := by
  refine ⟨fun t _ => ⟨Int.le_refl _, by show (0 : Int) < 3; decide⟩, fun t _ => Int.le_refl _, fun t _ => ⟨Int.le_refl _, by show (0 : Int) < 3; decide⟩, fun t _ => ⟨Int.le_refl _, by show (0 : Int) < 4294967296; decide⟩, fun t _ => ⟨Int.le_refl _, by show (0 : Int) < 4294967296; decide⟩, fun t _ => ⟨Int.le_refl _, by show (0 : Int) < 4294967296; decide⟩, fun m s _ _ => Int.le_refl _, fun m s _ _ => ⟨Int.le_refl _, by show (0 : Int) < 4294967296; decide⟩, fun m _ => ⟨Int.le_refl _, Int.le_refl _, Int.le_refl _, by show (0 : Int) ≤ 0 + 4; decide, Int.le_refl _⟩, fun m q _ h1 h2 => ?_, fun t _ hf => absurd hf.1 (by show ¬ (false = true); simp), fun t _ _ _ hf => absurd hf.1 (by show ¬ (false = true); simp), fun t _ h => absurd h (by show ¬ (false = true); simp), fun t _ => rfl, fun t _ => port0_inv 0⟩
  have a : (0 : Int) ≤ q := h1
  have b : q < 0 := h2
  omega
/-! ### Every step -/
structure OpOK (o : OpD) : Prop where
  k : 0 ≤ o.k
  a : 0 ≤ o.a ∧ o.a < 4294967296
  b : 0 ≤ o.b ∧ o.b < 4294967296
  c : 0 ≤ o.c ∧ o.c < 4294967296
theorem XInv.stepOK {N : Int} {A : Nat} {σ : SS} (h : XInv N A σ) {o : OpD} (ho : OpOK o) (hA : A + 14 < 1000000000) (hN : N < 4294967295) : StepOK σ o :=
  ⟨ho.k, ho.a, ho.b, h.issOK hN, h.isoOK hN, fun s hs => (h.port s hs).n, fun _ => h.tickOK o.a ho.a hA hN⟩
theorem XInv.up {N M : Int} {A B : Nat} {σ : SS} (h : XInv N A σ) (hN : N ≤ M) (hA : A ≤ B) : XInv M B σ := { h.mono hA with cnt := fun m hm => by have := h.cnt m hm; omega }
theorem XInv.step {N : Int} {A : Nat} {σ : SS} (h : XInv N A σ) {o : OpD} (ho : OpOK o) (hN : 0 ≤ N) : XInv (N + 1) (A + 14) (stepS σ o) := by
  have hup : XInv (N + 1) (A + 14) σ := h.up (by omega) (by omega)
  unfold stepS
  split
  · exact (h.issue o.a ho.a.1 ⟨false, o.b, 0⟩ ho.b).up (Int.le_refl _) (by omega)
  split
  · exact (h.issue o.a ho.a.1 ⟨true, o.b, o.c⟩ ho.b).up (Int.le_refl _) (by omega)
  split
  · split
    · rename_i hp
      unfold planTaken at hp
      simp only [Bool.and_eq_true, decide_eq_true_eq] at hp
      refine hup.ports (t := o.a.toNat) _ (fun s hs e => upd_ne _ _ _ _ e) (fun _ => by rw [upd_same]) (fun h6 => by rw [upd_same]; exact (hup.port _ h6).plan ⟨o.b, o.c⟩ ⟨ho.b.1, hp.1.2, ho.c.1, ho.c.2⟩ hp.2)
    · exact hup
  split
  · exact (h.tickF o.a).up (by omega) (Nat.le_refl _)
  split
  · exact hup.iso _ _
  split
  · exact hup.rst (by omega)
  · exact hup
end Go.Proofs.Qxb6500750aDoor
