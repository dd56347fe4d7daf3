import Derived.Test.Qxb6500750aDoorSumF
import Derived.Test.Qxb6500750aDoorJnt4
namespace Go.Proofs.Qxb6500750aDoor
open Go.RowKit
/-! ### A run without faults, plain -/
/-- What the law expects of a request that has been granted. -/
def retOK (q st da : Int) : Ret := ⟨true, q, st, da, 0, 0⟩
/-- The law's request beside the crossbar's: what a read carries as data is nobody's business. -/
def SameR (r' r : Req) : Prop := r'.w = r.w ∧ r'.ad = r.ad ∧ (r.w = true → r'.da = r.da)
structure FF (σ : SS) (acc : Nat → List Req) (exp : Nat → List Ret) (mem : Int → Int) : Prop where
  isoM : ∀ m, m < 3 → (σ.x.mp m).iso = false
  isoT : ∀ t, t < 7 → (σ.x.tp t).iso = false
  orp : ∀ t, t < 7 → (σ.x.tp t).orph = false
  plan : ∀ t, t < 6 → ∀ p ∈ (σ.p t).plans, p.o = 0 ∧ p.l < 64
  iss : ∀ m, m < 3 → (σ.x.mp m).iss = ((acc m).length : Nat)
  gr : ∀ m, m < 3 → (σ.x.mp m).gr = ((exp m).length : Nat)
  req : ∀ m, m < 3 → ∀ q : Nat, (σ.x.mp m).rt ≤ (q : Nat) → ((q : Nat) : Int) < (σ.x.mp m).iss → ∃ r', (acc m)[q]? = some r' ∧ SameR r' (slq σ.x m (q : Nat)).req
  wait : ∀ m, m < 3 → ∀ q, (σ.x.mp m).gr ≤ q → q < (σ.x.mp m).iss → (slq σ.x m q).ret = retOK q 0 0
  air : ∀ t, t < 7 → (σ.x.tp t).busy = true → (slotOf σ.x t).ret = retOK (σ.x.tp t).sq 0 0 ∧ (exp (mo σ.x t))[(σ.x.tp t).sq.toNat]? = some (if t < 6 then retOK (σ.x.tp t).sq 0 (σ.p t).rda else retOK (σ.x.tp t).sq 2 0) ∧ (t < 6 → (σ.p t).rst = 0 ∧ (σ.p t).due ≠ 0)
  key : ∀ m, m < 3 → ∀ q : Nat, (σ.x.mp m).rt ≤ (q : Nat) → ((q : Nat) : Int) < (σ.x.mp m).gr → (∃ τ, τ < 7 ∧ serves σ.x τ m (q : Nat)) ∨ ((slq σ.x m (q : Nat)).ph = 2 ∧ (exp m)[q]? = some (slq σ.x m (q : Nat)).ret)
  mem : ∀ a, dec a < 6 → (σ.p (dec a)).mem a = mem a
  va : ∀ m, m < 3 → ∀ r ∈ exp m, r.va = true
theorem tickP_keep (q : PS) : (tickP q).mem = q.mem ∧ (tickP q).plans = q.plans ∧ (tickP q).rda = q.rda ∧ (tickP q).rst = q.rst ∧ (tickP q).due = q.due := by
  unfold tickP; split <;> exact ⟨rfl, rfl, rfl, rfl, rfl⟩
theorem tkL_keep (t : Nat) (q : PS) : (tkL t q).mem = q.mem ∧ (tkL t q).plans = q.plans ∧ (tkL t q).rda = q.rda ∧ (tkL t q).rst = q.rst ∧ (tkL t q).due = q.due := by
  unfold tkL; split
  · exact tickP_keep q
  · exact ⟨rfl, rfl, rfl, rfl, rfl⟩
/-- Collect at one target: nothing is sent again or reported. -/
theorem colL_ff {t : Nat} {r : TP} {q : PS} {s : Slot} {im : Bool} (ho : r.orph = false) (hp : r.busy = true → t < 6 → 0 ≤ q.wt ∧ q.wt < 64 ∧ (q.due = 0 ∨ q.wt < q.due) ∧ q.due ≤ 64 ∧ q.due ≠ 0 ∧ q.rst = 0) :
    (r.busy = false ∧ colL t r q s im = ⟨r, q, s, false, false⟩) ∨ (r.busy = true ∧ t < 6 ∧ colL t r q s im = ⟨r, tickP q, s, false, false⟩) ∨
    (r.busy = true ∧ colL t r q s im = ⟨{ r with busy := false }, tkL t q, landS s (if t < 6 then 0 else 2) (if t < 6 then q.rda else 0) 0, false, false⟩) := by
  unfold colL
  by_cases hb : r.busy = false
  · rw [if_pos hb]; exact .inl ⟨hb, rfl⟩
  have hb' : r.busy = true := by simpa using hb
  rw [if_neg hb]
  by_cases hw : t < 6 ∧ tickEnds q = false
  · rw [if_pos hw]; exact .inr (.inl ⟨hb', hw.1, rfl⟩)
  rw [if_neg hw, if_neg (by rw [ho]; decide)]
  have hpC : pC t q = 0 ∧ pS t q = (if t < 6 then 0 else 2) ∧ pD t q = (if t < 6 then q.rda else 0) := by
    unfold pC pS pD
    by_cases h6 : t < 6
    · obtain ⟨w0, w1, w2, w3, w4, w5⟩ := hp hb' h6
      have he : tickEnds q = true := by
        cases he : tickEnds q
        · exact absurd ⟨h6, he⟩ hw
        · rfl
      have hd : (tickW q == q.due) = true := by
        unfold tickEnds at he
        simp only [Bool.and_eq_true, Bool.or_eq_true] at he
        rcases he.2 with h | h
        · exact h
        · have h : tickW q = 64 := by simpa using h
          have hq : tickW q = q.wt + 1 := by unfold tickW; omega
          rw [hq] at h ⊢
          have : q.wt + 1 = q.due := by omega
          simp [this]
      have hs : tickS q = 0 := by unfold tickS; rw [if_pos hd, w5]
      simp only [if_pos h6]
      refine ⟨hs, ?_, ?_⟩
      · unfold endS; rw [hs]; rfl
      · unfold endD; rw [hs]; unfold tickD; rw [if_pos hd]; rfl
    · simp only [if_neg h6]; exact ⟨trivial, trivial, trivial⟩
  obtain ⟨e1, e2, e3⟩ := hpC
  have hag : againL r s im (pC t q) = false := by
    unfold againL mayRep; rw [e1]; simp
  rw [if_neg (by rw [hag]; decide), e1, e2, e3]
  refine .inr (.inr ⟨hb', ?_⟩)
  have : ((if t < 6 then (0 : Int) else 2) == 3) = false := by split <;> rfl
  rw [this]
section
variable {N p : Int} {σ σ1 σ2 : SS} {ρ1 ρ : RepD}
theorem FF.pend {A : Nat} (hi : XInv N A σ) {acc : Nat → List Req} {exp : Nat → List Ret} {mem : Int → Int} (h : FF σ acc exp mem) {t : Nat} (ht : t < 7) :
    (σ.x.tp t).busy = true → t < 6 → 0 ≤ (σ.p t).wt ∧ (σ.p t).wt < 64 ∧ ((σ.p t).due = 0 ∨ (σ.p t).wt < (σ.p t).due) ∧ (σ.p t).due ≤ 64 ∧ (σ.p t).due ≠ 0 ∧ (σ.p t).rst = 0 := fun hb h6 => by
  obtain ⟨w0, w1, l, _, hd, _, hw, hp⟩ := (hi.port t h6).pend ((hi.busy t h6).symm.trans hb)
  obtain ⟨_, _, ha⟩ := h.air t ht hb
  obtain ⟨a1, a2⟩ := ha h6
  have := sendDue_le l.p hp
  exact ⟨w0, w1, hw, by omega, a2, a1⟩
/-- Collect. -/
theorem FF.collect {A : Nat} (hi : XInv N A σ) (T : TF N p σ σ1 σ2 ρ1 ρ) (hC : ∀ t, t < 7 → ColF σ (σ1, ρ1) t) {acc : Nat → List Req} {exp : Nat → List Ret} {mem : Int → Int} (h : FF σ acc exp mem) :
    FF σ1 acc exp mem ∧ ∀ t, t < 7 → ρ.rs t = false ∧ ρ.rp t = false := by
  have hL : ∀ t, t < 7 → _ := fun t ht => colL_ff (t := t) (r := σ.x.tp t) (q := σ.p t) (s := slotOf σ.x t) (im := (σ.x.mp (mo σ.x t)).iso) (h.orp t ht) (h.pend hi ht)
  have hp1 : ∀ t, t < 7 → (σ1.p t).mem = (σ.p t).mem ∧ (σ1.p t).plans = (σ.p t).plans ∧ (σ1.p t).rda = (σ.p t).rda ∧ (σ1.p t).rst = (σ.p t).rst ∧ (σ1.p t).due = (σ.p t).due := fun t ht => by
    have e := (hC t ht).2.1
    simp only [] at e
    rcases hL t ht with ⟨_, hl⟩ | ⟨_, _, hl⟩ | ⟨_, hl⟩ <;> rw [hl] at e <;> rw [e]
    · exact ⟨rfl, rfl, rfl, rfl, rfl⟩
    · exact tickP_keep _
    · exact tkL_keep _ _
  have hfly : ∀ t, t < 7 → (σ.x.tp t).busy = true → flying σ.x t := fun t ht hb => ⟨hb, h.orp t ht⟩
  have hbu : ∀ t, t < 7 → (σ1.x.tp t).busy = true → (σ.x.tp t).busy = true ∧ slotOf σ1.x t = slotOf σ.x t := fun t ht hb => by
    have e := (hC t ht).1
    have e3 := (hC t ht).2.2.1
    simp only [] at e e3
    rcases hL t ht with ⟨_, hl⟩ | ⟨hb0, _, hl⟩ | ⟨hb0, hl⟩ <;> rw [hl] at e e3
    · rw [e] at hb; simp_all
    · exact ⟨hb0, e3 (hfly t ht hb0)⟩
    · rw [e] at hb; cases hb
  refine ⟨⟨fun m hm => ?_, fun t ht => ?_, fun t ht => ?_, fun t ht p hp => ?_, fun m hm => ?_, fun m hm => ?_, fun m hm q h1 h2 => ?_, fun m hm q h1 h2 => ?_, fun t ht hb => ?_, fun m hm q h1 h2 => ?_, fun a ha => ?_, h.va⟩, fun t ht => ?_⟩
  · rw [(T.col.mp m).2.2.2.2]; exact h.isoM m hm
  · rw [(T.col.row t).2.2.2]; exact h.isoT t ht
  · have e := (hC t ht).1
    simp only [] at e
    rcases hL t ht with ⟨_, hl⟩ | ⟨_, _, hl⟩ | ⟨_, hl⟩ <;> rw [hl] at e <;> rw [e]
    · exact h.orp t ht
    · exact h.orp t ht
    · exact h.orp t ht
  · rw [(hp1 t (by omega)).2.1] at hp; exact h.plan t ht p hp
  · rw [(T.col.mp m).1]; exact h.iss m hm
  · rw [(T.col.mp m).2.1]; exact h.gr m hm
  · rw [(T.col.mp m).2.2.1] at h1
    rw [(T.col.mp m).1] at h2
    rw [(T.keep1 hm h1 h2).1]; exact h.req m hm q h1 h2
  · rw [(T.col.mp m).2.1] at h1
    rw [(T.col.mp m).1] at h2
    have hc := hi.cnt m hm
    rw [T.sl01 hm (by omega) h2 (fun τ h7 hs => ?_)]
    · exact h.wait m hm q h1 h2
    · obtain ⟨f1, f2, f3⟩ := hs
      have := (hi.fly τ h7 f1).2.1
      rw [f2, f3] at this; omega
  · obtain ⟨hb0, hs⟩ := hbu t ht hb
    obtain ⟨a1, a2, a3⟩ := h.air t ht hb0
    obtain ⟨r1, r2, r3⟩ := T.row1 t
    obtain ⟨_, _, g3, g4, g5⟩ := hp1 t ht
    rw [hs, r1, r2, g3, g4, g5]
    exact ⟨a1, a2, a3⟩
  · rw [(T.col.mp m).2.2.1] at h1
    rw [(T.col.mp m).2.1] at h2
    have hc := hi.cnt m hm
    by_cases hs : ∃ τ, τ < 7 ∧ serves σ.x τ m (q : Nat)
    · obtain ⟨τ, h7, hs⟩ := hs
      have hs' := hs
      obtain ⟨f1, f2, f3⟩ := hs'
      have e1 := (hC τ h7).1
      have e3 := (hC τ h7).2.2.1 f1
      simp only [] at e1 e3
      obtain ⟨r1, r2, r3⟩ := T.row1 τ
      rcases hL τ h7 with ⟨hb, _⟩ | ⟨_, _, hl⟩ | ⟨_, hl⟩
      · have := f1.1; rw [hb] at this; cases this
      · rw [hl] at e1
        refine .inl ⟨τ, h7, ?_, r1.trans f2, r2.trans f3⟩
        unfold flying; rw [e1]; exact f1
      · rw [hl] at e3
        have eS : slotOf σ1.x τ = slq σ1.x m (q : Nat) := by rw [slotOf_slq, r1, r2, f2, f3]
        rw [eS] at e3
        obtain ⟨a1, a2, _⟩ := h.air τ h7 f1.1
        rw [e3]
        refine .inr ⟨rfl, ?_⟩
        rw [f2, f3, Int.toNat_natCast] at a2
        rw [a2]
        unfold landS
        rw [a1, f3]
        unfold retOK
        split <;> rfl
    · rcases h.key m hm q h1 h2 with hk | ⟨k1, k2⟩
      · exact absurd hk hs
      · rw [T.sl01 hm h1 (by omega) (fun τ h7 h => hs ⟨τ, h7, h⟩)]
        exact .inr ⟨k1, k2⟩
  · rw [(hp1 _ (by omega)).1]; exact h.mem a ha
  · have e4 := (hC t ht).2.2.2.1
    have e5 := (hC t ht).2.2.2.2
    simp only [] at e4 e5
    obtain ⟨ρ2, _, _, g1, g2⟩ := T.arb
    rw [g1, g2, e4, e5]
    rcases hL t ht with ⟨_, hl⟩ | ⟨_, _, hl⟩ | ⟨_, hl⟩ <;> rw [hl] <;> exact ⟨rfl, rfl⟩
end
end Go.Proofs.Qxb6500750aDoor
