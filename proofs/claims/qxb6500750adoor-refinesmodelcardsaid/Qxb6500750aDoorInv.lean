import Derived.Test.Qxb6500750aDoorStep3
namespace Go.Proofs.Qxb6500750aDoor
open Go.RowKit
/-! ### The port's invariant -/
def planOK (p : PlanD) : Prop := 0 ≤ p.o ∧ p.o < 6 ∧ 0 ≤ p.l ∧ p.l < 4294967296
/-- How a sending with this plan ends. -/
def endP (p : PlanD) : Int := if 64 ≤ p.l ∨ p.o = 4 ∨ p.o = 5 then 4 else sendStatus p.o
structure PInv (A : Nat) (q : PS) : Prop where
  pl : ∀ p ∈ q.plans, planOK p
  n : q.plans.length ≤ 8
  a : q.atts.length ≤ A
  pend : q.busy = true → 0 ≤ q.wt ∧ q.wt < 64 ∧ ∃ l, q.atts.getLast? = some l ∧ q.due = sendDue l.p ∧ q.rst = sendStatus l.p.o ∧ (q.due = 0 ∨ q.wt < q.due) ∧ planOK l.p
theorem PInv.mono {A B : Nat} {q : PS} (h : PInv A q) (hl : A ≤ B) : PInv B q := ⟨h.pl, h.n, Nat.le_trans h.a hl, h.pend⟩
theorem sendDue_le (p : PlanD) (h : planOK p) : 0 ≤ sendDue p ∧ sendDue p ≤ 64 := by
  obtain ⟨_, _, h3, h4⟩ := h
  unfold sendDue
  split
  · rename_i hh
    simp only [Bool.and_eq_true, decide_eq_true_eq] at hh
    omega
  · omega
theorem PInv.tick {A : Nat} {q : PS} (h : PInv A q) : PInv A (tickP q) := by
  unfold tickP
  cases hb : q.busy
  · simp only [Bool.false_eq_true, if_false]; exact h
  · simp only [if_true]
    obtain ⟨w0, w1, l, hl, hd, hr, hw, hp⟩ := h.pend hb
    refine ⟨h.pl, h.n, h.a, fun hq => ?_⟩
    have hq' : (tickW q == q.due || tickW q == 64) = false := by
      revert hq; simp only []
      cases (tickW q == q.due || tickW q == 64) <;> simp
    simp only [Bool.or_eq_false_iff, beq_eq_false_iff_ne] at hq'
    have e : tickW q = q.wt + 1 := by unfold tickW; omega
    rw [e] at hq'
    refine ⟨?_, ?_, l, hl, hd, hr, ?_, hp⟩
    · show 0 ≤ tickW q; omega
    · show tickW q < 64; omega
    · show q.due = 0 ∨ tickW q < q.due
      rcases hw with h0 | h0
      · exact .inl h0
      · right; omega
theorem PInv.ends {A : Nat} {q : PS} (h : PInv A q) (he : tickEnds q = true) : ∃ l, q.atts.getLast? = some l ∧ tickS q = endP l.p := by
  unfold tickEnds at he
  simp only [Bool.and_eq_true] at he
  obtain ⟨hb, he⟩ := he
  obtain ⟨w0, w1, l, hl, hd, hr, hw, hp⟩ := h.pend hb
  refine ⟨l, hl, ?_⟩
  have hdl := sendDue_le l.p hp
  have e : tickW q = q.wt + 1 := by unfold tickW; omega
  unfold tickS
  rw [e] at he ⊢
  simp only [Bool.or_eq_true, beq_iff_eq] at he
  obtain ⟨o0, o1, l0, l1⟩ := hp
  unfold endP
  by_cases hq : q.wt + 1 = q.due
  · rw [if_pos (by simpa using hq), hr]
    have : sendDue l.p ≠ 0 := by rw [← hd, ← hq]; omega
    unfold sendDue at this
    split at this
    · rename_i ha
      simp only [Bool.and_eq_true, decide_eq_true_eq, answers, Bool.or_eq_true, beq_iff_eq] at ha
      rw [if_neg (by omega)]
    · exact absurd rfl this
  · rw [if_neg (by simpa using hq)]
    have h64 : q.wt + 1 = 64 := by omega
    have h0 : sendDue l.p = 0 := by omega
    unfold sendDue at h0
    split at h0
    · omega
    · rename_i ha
      simp only [Bool.and_eq_true, decide_eq_true_eq, answers, Bool.or_eq_true, beq_iff_eq, not_and] at ha
      rw [if_pos]
      by_cases h64 : 64 ≤ l.p.l
      · exact .inl h64
      · right
        by_cases h1 : l.p.o = 4
        · exact .inl h1
        · right
          by_cases h2 : l.p.o = 5
          · exact h2
          · exact absurd (ha (by omega)) (by omega)
theorem headPlan_ok {A : Nat} {q : PS} (h : PInv A q) : planOK (headPlan q) := by
  unfold headPlan
  split
  · exact ⟨by decide, by decide, by decide, by decide⟩
  · rename_i p ps he; exact h.pl p (by rw [he]; simp)
theorem PInv.send {A : Nat} {q : PS} (h : PInv A q) (r : LReq) : PInv (A + 1) (sendP q r) := by
  refine ⟨fun p hp => h.pl p (List.mem_of_mem_tail hp), ?_, ?_, fun _ => ?_⟩
  · show q.plans.tail.length ≤ 8
    have := h.n; simp; omega
  · show (q.atts ++ [_]).length ≤ A + 1
    have := h.a; simp; omega
  · have hp := headPlan_ok h
    have hd := sendDue_le _ hp
    refine ⟨by show (0 : Int) ≤ 0; omega, by show (0 : Int) < 64; omega, _, List.getLast?_concat, rfl, rfl, ?_, hp⟩
    show sendDue (headPlan q) = 0 ∨ 0 < sendDue (headPlan q)
    omega
theorem PInv.plan {A : Nat} {q : PS} (h : PInv A q) (p : PlanD) (hp : planOK p) (hn : q.plans.length < 8) : PInv A { q with plans := q.plans ++ [p] } := by
  refine ⟨fun p' hp' => ?_, ?_, h.a, h.pend⟩
  · rcases List.mem_append.1 hp' with h1 | h1
    · exact h.pl p' h1
    · have : p' = p := by simpa using h1
      rw [this]; exact hp
  · show (q.plans ++ [p]).length ≤ 8; simp; omega
theorem port0_inv (A : Nat) : PInv A port0 := ⟨fun p hp => by simp [port0] at hp, by simp [port0], by simp [port0], fun h => by simp [port0] at h⟩
end Go.Proofs.Qxb6500750aDoor
