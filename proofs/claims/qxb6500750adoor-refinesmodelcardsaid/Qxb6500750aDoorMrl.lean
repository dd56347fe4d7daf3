import Derived.Test.Qxb6500750aDoorMrep
namespace Go.Proofs.Qxb6500750aDoor
open Go.RowKit
/-! ### The machine, while something else turns -/
/-- The machine's marks. -/
def SM (k : Nat) : Prop := (30 ≤ k ∧ k ≤ 34) ∨ (60 ≤ k ∧ k ≤ 90)
theorem TGOK.ext {own own' : Nat → Nat} {S : Nat → Prop} {w w' : World} {tb : Nat → Int → Nat} {σ : SS} {t : Nat} (ht : t < 7) {g : TG} (h : TGOK w tb σ t g) (hx : Ext own own' S w w') (hs : ∀ k, SM k → ¬ S k)
    (owm : own g.wm = 60 + t) (opl : ∀ k, g.pv.ownBlock = some k → own k = 70 + t) (oac : ∀ k, g.av.ownBlock = some k → own k = 80 + t) (ogn : (σ.x.tp t).busy = true → (σ.x.tp t).orph = true → ∀ b, g.sv = .pointer (some ⟨b, 0, none⟩) → own b = 34) : TGOK w' tb σ t g where
  words := h.words.same (hx.block _ h.words.lt (by rw [owm]; exact hs _ (.inr (by omega))))
  plans := h.plans.same fun k hk => hx.block k (h.plans.lt k hk) (by rw [opl k hk]; exact hs _ (.inr (by omega)))
  acted := h.acted.same fun k hk => hx.block k (h.acted.lt k hk) (by rw [oac k hk]; exact hs _ (.inr (by omega)))
  free := h.free
  live := h.live
  gone := fun h1 h2 => by
    obtain ⟨b, y, e1, e2, e3, e4⟩ := h.gone h1 h2
    exact ⟨b, y, e1, e2.ext hx (by rw [ogn h1 h2 b e1]; exact hs _ (.inl (by omega))), e3, e4⟩
  left := h.left
  turn := h.turn
  iso := h.iso
theorem MR.ext {own own' : Nat → Nat} {S : Nat → Prop} {w w' : World} {mb : Nat} {M : MA} {tb : Nat → Int → Nat} {σ : SS} (h : MR own w mb M tb σ) (hx : Ext own own' S w w') (hs : ∀ k, SM k → ¬ S k) : MR own' w' mb M tb σ where
  blk := h.blk.ext hx (by rw [h.omb]; exact hs _ (.inl (by omega)))
  queue := fun m hm => (h.queue m hm).same fun k hk => hx.block k ((h.queue m hm).lt k hk) (by rw [h.oq m hm k hk]; exact hs _ (.inl (by omega)))
  tx := fun m hm q h1 h2 => (h.tx m hm q h1 h2).ext hx (by rw [h.otx m hm q h1 h2]; exact hs _ (.inl (by omega)))
  inj := h.inj
  ac := h.ac
  tk := h.tk
  ba := h.ba
  tgt := fun t ht => (h.tgt t ht).ext ht hx hs (h.owm t ht) (h.opl t ht) (h.oac t ht) (h.ogn t ht)
  omb := (hx.keep _ h.blk.lt).trans h.omb
  oq := fun m hm k hk => (hx.keep k ((h.queue m hm).lt k hk)).trans (h.oq m hm k hk)
  otx := fun m hm q h1 h2 => (hx.keep _ (h.tx m hm q h1 h2).lt).trans (h.otx m hm q h1 h2)
  ogn := fun t ht h1 h2 b hb => by
    obtain ⟨b', y, e1, e2, _⟩ := (h.tgt t ht).gone h1 h2
    have : b' = b := by rw [e1] at hb; injection hb with hb; injection hb with hb; injection hb
    subst this
    exact (hx.keep _ e2.lt).trans (h.ogn t ht h1 h2 b' hb)
  owm := fun t ht => (hx.keep _ (h.tgt t ht).words.lt).trans (h.owm t ht)
  opl := fun t ht k hk => (hx.keep k ((h.tgt t ht).plans.lt k hk)).trans (h.opl t ht k hk)
  oac := fun t ht k hk => (hx.keep k ((h.tgt t ht).acted.lt k hk)).trans (h.oac t ht k hk)
theorem MR.below {own : Nat → Nat} {w w' : World} {mb : Nat} {M : MA} {tb : Nat → Int → Nat} {σ : SS} (h : MR own w mb M tb σ) (hb : Below w.heap.size w w') : MR own w' mb M tb σ :=
  h.ext (Ext.of_below (S := fun _ => False) hb) (fun _ _ h => h)
/-- The machine's goal is the crossbar's route. -/
theorem goal_route {own : Nat → Nat} {w : World} {mb : Nat} {M : MA} {tb : Nat → Int → Nat} {σ : SS} (h : MR own w mb M tb σ) (a : Int) : (if a % 4 ≠ 0 ∨ (M.tg (dec a)).is = true then 6 else dec a) = rtAt σ.x a := by
  unfold rtAt
  rw [(h.tgt (dec a) (by have := dec_le a; omega)).iso]
/-- When the count of cycles left comes to nought, the link's sending ends. -/
theorem left_ends {A : Nat} {q : PS} (h : PInv A q) (hb : q.busy = true) : ((if q.due = 0 then (64 : Int) else q.due) - q.wt - 1 = 0 ↔ tickEnds q = true) ∧ (tickEnds q = true → tickS q = (if q.due = 0 then 4 else q.rst) ∧ tickD q = (if q.due = 0 then 0 else q.rda)) := by
  obtain ⟨w0, w1, l, _, hd, _, hw, hp⟩ := h.pend hb
  have hdl := sendDue_le l.p hp
  rw [← hd] at hdl
  have hW : tickW q = q.wt + 1 := by unfold tickW; omega
  have hE : tickEnds q = ((q.wt + 1 == q.due) || (q.wt + 1 == 64)) := by unfold tickEnds; rw [hb, hW]; rfl
  by_cases h0 : q.due = 0
  · rw [if_pos h0, if_pos h0, if_pos h0]
    have hf : (q.wt + 1 == q.due) = false := by simp; omega
    rw [hE, hf, Bool.false_or]
    refine ⟨⟨fun e => by simp; omega, fun e => by have : q.wt + 1 = 64 := by simpa using e
                                                  omega⟩, fun _ => ?_⟩
    unfold tickS tickD
    rw [hW, hf]
    exact ⟨rfl, rfl⟩
  · rw [if_neg h0, if_neg h0, if_neg h0]
    have hlt : q.wt < q.due := by omega
    rw [hE]
    refine ⟨⟨fun e => by simp; omega, fun e => ?_⟩, fun e => ?_⟩
    · have : q.wt + 1 = q.due ∨ q.wt + 1 = 64 := by simpa using e
      omega
    · have hq : q.wt + 1 = q.due := by
        have : q.wt + 1 = q.due ∨ q.wt + 1 = 64 := by simpa using e
        omega
      unfold tickS tickD
      rw [hW]
      simp [hq]
end Go.Proofs.Qxb6500750aDoor
