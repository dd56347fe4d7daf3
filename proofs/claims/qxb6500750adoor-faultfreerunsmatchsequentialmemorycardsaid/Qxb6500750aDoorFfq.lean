import Derived.Test.Qxb6500750aDoorFfp
namespace Go.Proofs.Qxb6500750aDoor
open Go.RowKit
/-! ### A run without faults, plain: grants and returns -/
def badA (r : Req) : Bool := dec r.ad == 6 || !(r.ad % 4 == 0)
def wantR (r : Req) (n : Nat) (mem : Int → Int) : Ret := if badA r = true then retOK (n : Nat) 2 0 else if r.w = true then retOK (n : Nat) 0 0 else retOK (n : Nat) 0 (mem r.ad)
def memR (r : Req) (mem : Int → Int) : Int → Int := if badA r = true then mem else if r.w = true then (fun x => if x = r.ad then r.da else mem x) else mem
def reqAt (acc : Nat → List Req) (g n : Nat) : Req := ((acc g)[n]?).getD ⟨false, 0, 0⟩
theorem badA_same {r' r : Req} (h : SameR r' r) : badA r' = badA r := by unfold badA; rw [h.2.1]
theorem wantR_same {r' r : Req} (h : SameR r' r) (n : Nat) (mem : Int → Int) : wantR r' n mem = wantR r n mem := by unfold wantR; rw [badA_same h, h.1, h.2.1]
theorem memR_same {r' r : Req} (h : SameR r' r) (mem : Int → Int) : memR r' mem = memR r mem := by
  unfold memR; rw [badA_same h, h.1, h.2.1]
  cases hw : r.w
  · rfl
  · rw [h.2.2 hw]
structure FE where
  exp : Nat → List Ret
  mem : Int → Int
def ffR (acc : Nat → List Req) (ρ : RepD) (k : Nat) (E : FE) : FE :=
  if ρ.g k = -1 then E
  else ⟨upd E.exp (ρ.g k).toNat (E.exp (ρ.g k).toNat ++ [wantR (reqAt acc (ρ.g k).toNat (E.exp (ρ.g k).toNat).length) (E.exp (ρ.g k).toNat).length E.mem]), memR (reqAt acc (ρ.g k).toNat (E.exp (ρ.g k).toNat).length) E.mem⟩
def ffN (acc : Nat → List Req) (ρ : RepD) (E : FE) : Nat → FE
  | 0 => E
  | n + 1 => ffR acc ρ n (ffN acc ρ E n)
theorem headPlan_ff {q : PS} (h : ∀ p ∈ q.plans, p.o = 0 ∧ p.l < 64) : (headPlan q).o = 0 ∧ (headPlan q).l < 64 := by
  unfold headPlan
  cases hp : q.plans with
  | nil => exact ⟨rfl, by decide⟩
  | cons a l => exact h a (by rw [hp]; exact List.mem_cons_self ..)
theorem sendP_ff {q : PS} (h : ∀ p ∈ q.plans, p.o = 0 ∧ p.l < 64) (hl : ∀ p ∈ q.plans, planOK p) (r : LReq) :
    (sendP q r).rst = 0 ∧ (sendP q r).due ≠ 0 ∧ (sendP q r).rda = (if r.w = true then 0 else q.mem r.ad) ∧ (sendP q r).mem = (if r.w = true then (fun x => if x = r.ad then r.da else q.mem x) else q.mem) ∧ (∀ p ∈ (sendP q r).plans, p.o = 0 ∧ p.l < 64) := by
  obtain ⟨h0, h1⟩ := headPlan_ff h
  have h2 : 0 ≤ (headPlan q).l := by
    unfold headPlan
    cases hp : q.plans with
    | nil => decide
    | cons a l => exact (hl a (by rw [hp]; exact List.mem_cons_self ..)).2.2.1
  refine ⟨?_, ?_, ?_, ?_, fun p hp => h p (List.mem_of_mem_tail hp)⟩
  · show sendStatus (headPlan q).o = 0
    rw [h0]; rfl
  · show sendDue (headPlan q) ≠ 0
    unfold sendDue answers
    rw [h0]
    simp only [show ((0 : Int) == 0) = true from rfl, Bool.true_or, Bool.true_and, decide_eq_true h1, if_true]
    omega
  · show sendRead q r = _
    unfold sendRead
    rw [h0]
    cases r.w <;> rfl
  · show sendMem q r = _
    unfold sendMem actB
    rw [h0]
    cases r.w <;> rfl
section
variable {N p : Int} {σ σ1 σ2 : SS} {ρ1 ρ : RepD}
/-- What grants do to expectations and memory. -/
structure Gr (σ1 σ2 : SS) (ρ : RepD) (exp : Nat → List Ret) (mem : Int → Int) (k : Nat) (E : FE) : Prop where
  no : ∀ m, m < 3 → (∀ t, t < k → ρ.g t ≠ (m : Nat)) → E.exp m = exp m
  yes : ∀ t, t < k → ∀ m, m < 3 → ρ.g t = (m : Nat) → E.exp m = exp m ++ [if t < 6 then retOK (σ1.x.mp m).gr 0 (σ2.p t).rda else retOK (σ1.x.mp m).gr 2 0]
  mem : ∀ a, dec a < 6 → E.mem a = if dec a < k then (σ2.p (dec a)).mem a else mem a
theorem FF.route {A : Nat} (hi1 : XInv N A σ1) (T : TF N p σ σ1 σ2 ρ1 ρ) {acc : Nat → List Req} {exp : Nat → List Ret} {mem : Int → Int} (h1 : FF σ1 acc exp mem) {t : Nat} (ht : t < 7) {m : Nat} (hm : m < 3) (hg : ρ.g t = (m : Nat)) :
    (σ1.x.mp m).gr < (σ1.x.mp m).iss ∧ SameR (reqAt acc m (exp m).length) (slq σ1.x m (σ1.x.mp m).gr).req ∧ (badA (slq σ1.x m (σ1.x.mp m).gr).req = true ↔ t = 6) ∧ (t < 6 → dec (slq σ1.x m (σ1.x.mp m).gr).req.ad = t) := by
  have hc := hi1.cnt m hm
  have hw := (T.outA ht).wants (hi1.turn t ht) hg
  have hw' := hw
  unfold wantsF at hw'
  simp only [Bool.and_eq_true, Bool.not_eq_true', beq_eq_false_iff_ne] at hw'
  have hlt : (σ1.x.mp m).gr < (σ1.x.mp m).iss := by omega
  have hr : reqG σ1.x m = (slq σ1.x m (σ1.x.mp m).gr).req := rfl
  have hrt : rtAt σ1.x (slq σ1.x m (σ1.x.mp m).gr).req.ad = t := by rw [← hr]; simpa using hw'.2
  have hgn : (σ1.x.mp m).gr = ((exp m).length : Nat) := h1.gr m hm
  refine ⟨hlt, ?_, ?_, fun h6 => ?_⟩
  · obtain ⟨r', e1, e2⟩ := h1.req m hm (exp m).length (by omega) (by omega)
    unfold reqAt
    rw [e1, hgn]; exact e2
  · unfold rtAt at hrt
    rw [h1.isoT _ (by have := dec_le (slq σ1.x m (σ1.x.mp m).gr).req.ad; omega)] at hrt
    unfold badA
    generalize (slq σ1.x m (σ1.x.mp m).gr).req.ad = ad at *
    simp only [Bool.or_eq_true, beq_iff_eq, Bool.not_eq_true', beq_eq_false_iff_ne]
    by_cases h4 : ad % 4 ≠ 0
    · rw [if_pos (.inl h4)] at hrt
      exact ⟨fun _ => hrt.symm, fun _ => .inr h4⟩
    · rw [if_neg (fun h => h.elim h4 (by decide))] at hrt
      exact ⟨fun h => h.elim (fun h => by omega) (fun h => absurd h h4), fun h => .inl (by omega)⟩
  · unfold rtAt at hrt
    split at hrt
    · omega
    · exact hrt
theorem FF.grants {A : Nat} (hi1 : XInv N A σ1) (T : TF N p σ σ1 σ2 ρ1 ρ) (hA : ∀ t, t < 7 → ∀ m, m < 3 → ρ.g t = (m : Nat) → σ2.p t = if t < 6 then sendP (σ1.p t) ⟨lid (m : Nat) (σ1.x.mp m).gr, (slq σ1.x m (σ1.x.mp m).gr).req.w, (slq σ1.x m (σ1.x.mp m).gr).req.ad, (slq σ1.x m (σ1.x.mp m).gr).req.da⟩ else σ1.p t)
    {acc : Nat → List Req} {exp : Nat → List Ret} {mem : Int → Int} (h1 : FF σ1 acc exp mem) : ∀ k, k ≤ 7 → Gr σ1 σ2 ρ exp mem k (ffN acc ρ ⟨exp, mem⟩ k)
  | 0, _ => ⟨fun _ _ _ => rfl, fun t ht => absurd ht (by omega), fun _ _ => rfl⟩
  | n + 1, hn => by
    have ih := FF.grants hi1 T hA h1 n (by omega)
    show Gr σ1 σ2 ρ exp mem (n + 1) (ffR acc ρ n (ffN acc ρ ⟨exp, mem⟩ n))
    generalize ffN acc ρ ⟨exp, mem⟩ n = E at *
    unfold ffR
    rcases T.outA (t := n) (by omega) with ⟨hg, _, hq, _⟩ | ⟨m, hm, hg, hb, _, _, hne, hr, _⟩
    · rw [if_pos hg]
      refine ⟨fun m hm hn' => ih.no m hm (fun t ht => hn' t (by omega)), fun t ht m hm h => ?_, fun a ha => ?_⟩
      · by_cases e : t = n
        · subst e; rw [hg] at h; omega
        · exact ih.yes t (by omega) m hm h
      · rw [ih.mem a ha]
        by_cases e : dec a = n
        · rw [if_neg (by omega), if_pos (by omega), e, hq, ← e, h1.mem a ha]
        · by_cases e2 : dec a < n
          · rw [if_pos e2, if_pos (by omega)]
          · rw [if_neg e2, if_neg (by omega)]
    · rw [if_neg (by rw [hg]; omega)]
      have hun : ∀ t, t < 7 → ρ.g t = (m : Nat) → t = n := fun t ht h => by
        obtain ⟨ρ2, hAI, e, _⟩ := T.arb
        rw [e] at h hg
        rcases hAI.mp m hm with ⟨_, hno⟩ | ⟨_, t0, _, _, hu⟩
        · exact absurd h (hno t ht)
        · rw [hu t ht h, hu n (by omega) hg]
      have hEm : E.exp m = exp m := ih.no m hm (fun t ht h => by have := hun t (by omega) h; omega)
      obtain ⟨q1, q2, q3, q4⟩ := h1.route hi1 T (t := n) (by omega) hm hg
      rw [hg, Int.toNat_natCast, hEm, wantR_same q2, memR_same q2]
      have hgn : (σ1.x.mp m).gr = ((exp m).length : Nat) := h1.gr m hm
      have hA' := hA n (by omega) m hm hg
      generalize (slq σ1.x m (σ1.x.mp m).gr).req = r at *
      have hwant : wantR r (exp m).length E.mem = if n < 6 then retOK (σ1.x.mp m).gr 0 (σ2.p n).rda else retOK (σ1.x.mp m).gr 2 0 := by
        unfold wantR
        by_cases h6 : n < 6
        · have hnb : ¬ badA r = true := fun h => by have := q3.1 h; omega
          rw [if_neg hnb, if_pos h6, hA', if_pos h6, hgn]
          obtain ⟨_, _, s3, _⟩ := sendP_ff (h1.plan n h6) (hi1.port n h6).pl ⟨lid (m : Nat) ((exp m).length : Nat), r.w, r.ad, r.da⟩
          rw [s3]
          have hd := q4 h6
          have hme : E.mem r.ad = (σ1.p n).mem r.ad := by
            rw [ih.mem r.ad (by omega), if_neg (by omega), ← h1.mem r.ad (by omega), hd]
          rw [hme]
          cases r.w <;> rfl
        · rw [if_pos (q3.2 (by omega)), if_neg h6, hgn]
      refine ⟨fun m' hm' hn' => ?_, fun t ht m' hm' h => ?_, fun a ha => ?_⟩
      · have hne' : m' ≠ m := fun e => hn' n (by omega) (by rw [e]; exact hg)
        show upd E.exp m _ m' = _
        rw [upd_ne _ _ _ _ hne']
        exact ih.no m' hm' (fun t ht => hn' t (by omega))
      · show upd E.exp m _ m' = _
        by_cases e : m' = m
        · subst e
          have := hun t (by omega) h
          subst this
          rw [upd_same, hwant]
        · rw [upd_ne _ _ _ _ e]
          have hne' : t ≠ n := fun e' => by subst e'; rw [hg] at h; omega
          exact ih.yes t (by omega) m' hm' h
      · show memR r E.mem a = _
        unfold memR
        by_cases h6 : n < 6
        · have hnb : ¬ badA r = true := fun h => by have := q3.1 h; omega
          rw [if_neg hnb]
          obtain ⟨_, _, _, s4, _⟩ := sendP_ff (h1.plan n h6) (hi1.port n h6).pl ⟨lid (m : Nat) (σ1.x.mp m).gr, r.w, r.ad, r.da⟩
          rw [if_pos h6] at hA'
          have hd := q4 h6
          by_cases e : dec a = n
          · rw [if_pos (show dec a < n + 1 by omega), e, hA', s4]
            have hme : E.mem a = (σ1.p n).mem a := by
              rw [ih.mem a ha, if_neg (by omega), ← h1.mem a ha, e]
            cases r.w
            · exact hme
            · simp only [if_true, hme]
          · have hna : a ≠ r.ad := fun e' => e (by rw [e']; exact hd)
            have hme : (if r.w = true then (fun x => if x = r.ad then r.da else E.mem x) else E.mem) a = E.mem a := by
              cases r.w
              · rfl
              · simp only [if_true, if_neg hna]
            rw [hme, ih.mem a ha]
            by_cases e2 : dec a < n
            · rw [if_pos e2, if_pos (by omega)]
            · rw [if_neg e2, if_neg (by omega)]
        · rw [if_pos (q3.2 (by omega)), ih.mem a ha]
          rw [if_pos (by omega), if_pos (by omega)]
theorem Gr.len {exp : Nat → List Ret} {mem : Int → Int} {E : FE} (G : Gr σ1 σ2 ρ exp mem 7 E) (m : Nat) (hm : m < 3) : (∀ q : Nat, q < (exp m).length → (E.exp m)[q]? = (exp m)[q]?) := fun q hq => by
  by_cases h : ∃ t, t < 7 ∧ ρ.g t = (m : Nat)
  · obtain ⟨t, ht, h⟩ := h
    rw [G.yes t ht m hm h, List.getElem?_append_left hq]
  · rw [G.no m hm (fun t ht h' => h ⟨t, ht, h'⟩)]
/-- Arbitrate. -/
theorem FF.arb {A : Nat} (hi1 : XInv N A σ1) (T : TF N p σ σ1 σ2 ρ1 ρ) (hA : ∀ t, t < 7 → ∀ m, m < 3 → ρ.g t = (m : Nat) → σ2.p t = if t < 6 then sendP (σ1.p t) ⟨lid (m : Nat) (σ1.x.mp m).gr, (slq σ1.x m (σ1.x.mp m).gr).req.w, (slq σ1.x m (σ1.x.mp m).gr).req.ad, (slq σ1.x m (σ1.x.mp m).gr).req.da⟩ else σ1.p t)
    {acc : Nat → List Req} {exp : Nat → List Ret} {mem : Int → Int} (h1 : FF σ1 acc exp mem) {E : FE} (G : Gr σ1 σ2 ρ exp mem 7 E) : FF σ2 acc E.exp E.mem := by
  obtain ⟨ρ2, hAI, eg, _⟩ := T.arb
  have hmp : ∀ m, m < 3 → (σ2.x.mp m).iss = (σ1.x.mp m).iss ∧ (σ2.x.mp m).rt = (σ1.x.mp m).rt ∧ (σ2.x.mp m).iso = (σ1.x.mp m).iso ∧ (((σ2.x.mp m).gr = (σ1.x.mp m).gr ∧ ∀ t, t < 7 → ρ.g t ≠ (m : Nat)) ∨ ((σ2.x.mp m).gr = (σ1.x.mp m).gr + 1 ∧ ∃ t, t < 7 ∧ ρ.g t = (m : Nat))) := fun m hm => by
    rcases hAI.mp m hm with ⟨h, hn⟩ | ⟨h, t, ht, hg, _⟩
    · rw [h]; exact ⟨rfl, rfl, rfl, .inl ⟨rfl, fun t ht => by rw [eg]; exact hn t ht⟩⟩
    · rw [h]; exact ⟨rfl, rfl, rfl, .inr ⟨rfl, t, ht, by rw [eg]; exact hg⟩⟩
  refine ⟨fun m hm => ?_, fun t ht => ?_, fun t ht => ?_, fun t ht p hp => ?_, fun m hm => ?_, fun m hm => ?_, fun m hm q h1' h2 => ?_, fun m hm q h1' h2 => ?_, fun t ht hb => ?_, fun m hm q h1' h2 => ?_, fun a ha => ?_, fun m hm r hr => ?_⟩
  · rw [(hmp m hm).2.2.1]; exact h1.isoM m hm
  · rcases T.outA ht with ⟨_, hr, _⟩ | ⟨m, _, _, _, _, _, _, hr, _⟩ <;> rw [hr] <;> exact h1.isoT t ht
  · rcases T.outA ht with ⟨_, hr, _⟩ | ⟨m, _, _, _, _, _, _, hr, _⟩ <;> rw [hr] <;> exact h1.orp t ht
  · rcases T.outA (t := t) (by omega) with ⟨_, _, hq, _⟩ | ⟨m, hm, hg, _⟩
    · rw [hq] at hp; exact h1.plan t ht p hp
    · rw [hA t (by omega) m hm hg, if_pos ht] at hp
      exact (sendP_ff (h1.plan t ht) (hi1.port t ht).pl _).2.2.2.2 p hp
  · rw [(hmp m hm).1]; exact h1.iss m hm
  · rcases (hmp m hm).2.2.2 with ⟨e, hn⟩ | ⟨e, t, ht, hg⟩
    · rw [e, G.no m hm hn]; exact h1.gr m hm
    · rw [e, G.yes t ht m hm hg, List.length_append, h1.gr m hm]; simp
  · rw [(hmp m hm).2.1] at h1'
    rw [(hmp m hm).1] at h2
    rw [(T.keep2 hm _).1]; exact h1.req m hm q h1' h2
  · rw [(hmp m hm).1] at h2
    rw [(T.keep2 hm _).2]
    refine h1.wait m hm q ?_ h2
    rcases (hmp m hm).2.2.2 with ⟨e, hn⟩ | ⟨e, t, ht, hg⟩ <;> omega
  · rcases T.outA ht with ⟨hg, hr, hq, _⟩ | ⟨m, hm, hg, _, _, _, hne, hr, _⟩
    · rw [hr] at hb
      obtain ⟨a1, a2, a3⟩ := h1.air t ht hb
      have hmo : mo σ2.x t = mo σ1.x t := by unfold mo; rw [hr]
      have hm3 : mo σ1.x t < 3 := mo_lt hi1 ht
      obtain ⟨f1, f2, f3⟩ := hi1.fly t ht ⟨hb, h1.orp t ht⟩
      refine ⟨?_, ?_, ?_⟩
      · rw [slotOf_slq, hmo, hr, (T.keep2 hm3 _).2, ← slotOf_slq]; exact a1
      · rw [hmo, hr, hq, G.len _ hm3 _ (by have := h1.gr _ hm3; have := hi1.tsq t ht; omega)]; exact a2
      · rw [hq]; exact a3
    · have hmo : mo σ2.x t = m := by unfold mo; rw [hr]; simp
      have hc := hi1.cnt m hm
      have hlt : (σ1.x.mp m).gr < (σ1.x.mp m).iss := by omega
      have hsq : (σ2.x.tp t).sq = (σ1.x.mp m).gr := by rw [hr]
      refine ⟨?_, ?_, fun h6 => ?_⟩
      · rw [slotOf_slq, hmo, hsq, (T.keep2 hm _).2]
        exact h1.wait m hm _ (Int.le_refl _) hlt
      · rw [hmo, hsq, G.yes t ht m hm hg, h1.gr m hm, Int.toNat_natCast, List.getElem?_append_right (Nat.le_refl _), Nat.sub_self]
        rfl
      · rw [hA t ht m hm hg, if_pos h6]
        obtain ⟨s1, s2, _⟩ := sendP_ff (h1.plan t h6) (hi1.port t h6).pl ⟨lid (m : Nat) (σ1.x.mp m).gr, (slq σ1.x m (σ1.x.mp m).gr).req.w, (slq σ1.x m (σ1.x.mp m).gr).req.ad, (slq σ1.x m (σ1.x.mp m).gr).req.da⟩
        exact ⟨s1, s2⟩
  · rw [(hmp m hm).2.1] at h1'
    by_cases hq : ((q : Nat) : Int) < (σ1.x.mp m).gr
    · have hgl := h1.gr m hm
      rcases h1.key m hm q h1' hq with ⟨τ, h7, f1, f2, f3⟩ | ⟨k1, k2⟩
      · refine .inl ⟨τ, h7, ?_⟩
        rcases T.outA h7 with ⟨_, hr, _⟩ | ⟨m', _, _, hb, _⟩
        · unfold serves flying mo at *; rw [hr]; exact ⟨f1, f2, f3⟩
        · have := f1.1; rw [hb] at this; cases this
      · right
        obtain ⟨y1, y2, y3, y4, y5⟩ := T.col.mp m
        simp only [] at y1 y2 y3
        rw [T.sl12 hm (by rw [← y3]; exact h1') (by rw [← y2]; exact hq), G.len m hm q (by omega)]
        exact ⟨k1, k2⟩
    · left
      rcases (hmp m hm).2.2.2 with ⟨e, hn⟩ | ⟨e, t, ht, hg⟩
      · omega
      · refine ⟨t, ht, ?_⟩
        rcases T.outA ht with ⟨hg', _⟩ | ⟨m', hm', hg', _, _, _, _, hr, _⟩
        · rw [hg] at hg'; omega
        · rw [hg] at hg'
          have : m = m' := by omega
          subst this
          unfold serves flying mo
          rw [hr]
          refine ⟨⟨rfl, ?_⟩, by simp, by show (σ1.x.mp m).gr = _; omega⟩
          exact h1.orp t ht
  · rw [G.mem a ha, if_pos (by omega)]
  · by_cases h : ∃ t, t < 7 ∧ ρ.g t = (m : Nat)
    · obtain ⟨t, ht, h⟩ := h
      rw [G.yes t ht m hm h] at hr
      rcases List.mem_append.1 hr with hr | hr
      · exact h1.va m hm r hr
      · rw [List.mem_singleton.1 hr]; split <;> rfl
    · rw [G.no m hm (fun t ht h' => h ⟨t, ht, h'⟩)] at hr
      exact h1.va m hm r hr
end
end Go.Proofs.Qxb6500750aDoor
