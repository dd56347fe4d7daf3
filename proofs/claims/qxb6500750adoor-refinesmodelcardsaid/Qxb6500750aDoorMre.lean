import Derived.Test.Qxb6500750aDoorMio2
namespace Go.Proofs.Qxb6500750aDoor
open Go.RowKit
/-! ### The machine's reset -/
def mzN (M : MA) : Nat → MA
  | 0 => M
  | i + 1 => { mzN M i with q := upd (mzN M i).q i (.slice none 0 0), ac := upd (mzN M i).ac i 0, tk := upd (mzN M i).tk i false }
def tzN (M : MA) : Nat → MA
  | 0 => M
  | t + 1 => { tzN M t with tg := upd (tzN M t).tg t { (tzN M t).tg t with tu := 0 } }
theorem mzN_q (M : MA) : ∀ i m, (mzN M i).q m = if m < i then .slice none 0 0 else M.q m
  | 0, m => (if_neg (by omega)).symm
  | i + 1, m => by
    show upd (mzN M i).q i _ m = _
    by_cases e : m = i
    · subst e; rw [upd_same, if_pos (by omega)]
    · rw [upd_ne _ _ _ _ e, mzN_q M i m]
      by_cases h : m < i
      · rw [if_pos h, if_pos (by omega)]
      · rw [if_neg h, if_neg (by omega)]
theorem mzN_ac (M : MA) : ∀ i m, (mzN M i).ac m = if m < i then 0 else M.ac m
  | 0, m => (if_neg (by omega)).symm
  | i + 1, m => by
    show upd (mzN M i).ac i _ m = _
    by_cases e : m = i
    · subst e; rw [upd_same, if_pos (by omega)]
    · rw [upd_ne _ _ _ _ e, mzN_ac M i m]
      by_cases h : m < i
      · rw [if_pos h, if_pos (by omega)]
      · rw [if_neg h, if_neg (by omega)]
theorem mzN_tk (M : MA) : ∀ i m, (mzN M i).tk m = if m < i then false else M.tk m
  | 0, m => (if_neg (by omega)).symm
  | i + 1, m => by
    show upd (mzN M i).tk i _ m = _
    by_cases e : m = i
    · subst e; rw [upd_same, if_pos (by omega)]
    · rw [upd_ne _ _ _ _ e, mzN_tk M i m]
      by_cases h : m < i
      · rw [if_pos h, if_pos (by omega)]
      · rw [if_neg h, if_neg (by omega)]
theorem mzN_rest (M : MA) : ∀ i, (mzN M i).ba = M.ba ∧ (mzN M i).tg = M.tg
  | 0 => ⟨rfl, rfl⟩
  | i + 1 => mzN_rest M i
theorem tzN_rest (M : MA) : ∀ t, (tzN M t).q = M.q ∧ (tzN M t).ac = M.ac ∧ (tzN M t).tk = M.tk ∧ (tzN M t).ba = M.ba
  | 0 => ⟨rfl, rfl, rfl, rfl⟩
  | t + 1 => tzN_rest M t
theorem tzN_tg (M : MA) : ∀ t τ, (tzN M t).tg τ = if τ < t then { M.tg τ with tu := 0 } else M.tg τ
  | 0, τ => (if_neg (by omega)).symm
  | t + 1, τ => by
    show upd (tzN M t).tg t _ τ = _
    by_cases e : τ = t
    · subst e; rw [upd_same, tzN_tg M τ τ, if_neg (by omega), if_pos (by omega)]
    · rw [upd_ne _ _ _ _ e, tzN_tg M t τ]
      by_cases h : τ < t
      · rw [if_pos h, if_pos (by omega)]
      · rw [if_neg h, if_neg (by omega)]
def Dn (σ : SS) (i j m : Nat) (q : Int) : Prop := m < i ∨ (m = i ∧ q < (σ.x.mp m).rt + (j : Nat))
structure RI (w0 : World) (mb : Nat) (MM : MA) (tb : Nat → Int → Nat) (σ : SS) (i j : Nat) (wr : World) : Prop where
  blk : Blk wr mb (encM MM) 104
  don : ∀ m, m < 3 → ∀ q, (σ.x.mp m).rt ≤ q → q < (σ.x.mp m).iss → Dn σ i j m q → Blk wr (tb m q) (encT { txOf σ.x m q with dr := true }) 148
  oth : ∀ k, k ≠ mb → (∀ m, m < 3 → ∀ q, (σ.x.mp m).rt ≤ q → q < (σ.x.mp m).iss → Dn σ i j m q → k ≠ tb m q) → wr.heap[k]? = w0.heap[k]?
  os : wr.os = w0.os
  tape : wr.tape = w0.tape
  output : wr.output = w0.output
  size : wr.heap.size = w0.heap.size
theorem RI.mch {w0 wr : World} {mb : Nat} {MM : MA} {tb : Nat → Int → Nat} {σ : SS} {i j : Nat} {own : Nat → Nat} {M : MA} (h0 : MR own w0 mb M tb σ) (h : RI w0 mb MM tb σ i j wr) (MM' : MA) (n : Nat) : RI w0 mb MM' tb σ i j ((put wr mb (encM MM') 104).drewN n) := by
  have hne : ∀ b, own b ≠ 30 → b ≠ mb := fun b hb e => hb (by rw [e]; exact h0.omb)
  refine ⟨Blk.put_same h.blk.lt, fun m hm q h1 h2 hd => ?_, fun k hk hn => ?_, h.os, h.tape, h.output, ?_⟩
  · exact (put_heap_ne _ _ _ _ _ (hne _ (by rw [h0.otx m hm q h1 h2]; omega))).trans (h.don m hm q h1 h2 hd)
  · exact (put_heap_ne _ _ _ _ _ hk).trans (h.oth k hk hn)
  · show (put wr mb _ 104).heap.size = _; rw [put_size]; exact h.size
theorem RI.mono {w0 wr : World} {mb : Nat} {MM : MA} {tb : Nat → Int → Nat} {σ : SS} {i j i' j' : Nat} (h : RI w0 mb MM tb σ i j wr) (hd : ∀ m, m < 3 → ∀ q, (σ.x.mp m).rt ≤ q → q < (σ.x.mp m).iss → (Dn σ i j m q ↔ Dn σ i' j' m q)) : RI w0 mb MM tb σ i' j' wr :=
  ⟨h.blk, fun m hm q h1 h2 hh => h.don m hm q h1 h2 ((hd m hm q h1 h2).2 hh), fun k hk hn => h.oth k hk (fun m hm q h1 h2 hh => hn m hm q h1 h2 ((hd m hm q h1 h2).1 hh)), h.os, h.tape, h.output, h.size⟩
theorem RI.drop {w0 wr : World} {mb : Nat} {MM : MA} {tb : Nat → Int → Nat} {σ : SS} {i j : Nat} {own : Nat → Nat} {M : MA} (h0 : MR own w0 mb M tb σ) (h : RI w0 mb MM tb σ i j wr) (hi : i < 3) (hj : (σ.x.mp i).rt + (j : Nat) < (σ.x.mp i).iss) :
    Blk wr (tb i ((σ.x.mp i).rt + (j : Nat))) (encT (txOf σ.x i ((σ.x.mp i).rt + (j : Nat)))) 148 ∧ RI w0 mb MM tb σ i (j + 1) (put wr (tb i ((σ.x.mp i).rt + (j : Nat))) (encT { txOf σ.x i ((σ.x.mp i).rt + (j : Nat)) with dr := true }) 148) := by
  have hT0 := h0.tx i hi ((σ.x.mp i).rt + (j : Nat)) (by omega) hj
  have hoT := h0.otx i hi ((σ.x.mp i).rt + (j : Nat)) (by omega) hj
  have hTm : tb i ((σ.x.mp i).rt + (j : Nat)) ≠ mb := fun e => by rw [e, h0.omb] at hoT; omega
  have hnd : ∀ m, m < 3 → ∀ q, (σ.x.mp m).rt ≤ q → q < (σ.x.mp m).iss → Dn σ i j m q → tb i ((σ.x.mp i).rt + (j : Nat)) ≠ tb m q := fun m hm q h1 h2 hd e => by
    obtain ⟨e1, e2⟩ := h0.inj i _ m q hi hm (by omega) hj h1 h2 e
    subst e1
    rcases hd with hd | ⟨_, hd⟩
    · omega
    · omega
  have hT : Blk wr (tb i ((σ.x.mp i).rt + (j : Nat))) (encT (txOf σ.x i ((σ.x.mp i).rt + (j : Nat)))) 148 := (h.oth _ hTm hnd).trans hT0
  refine ⟨hT, h.blk.put_ne (Ne.symm hTm), fun m hm q h1 h2 hd => ?_, fun k hk hn => ?_, h.os, h.tape, h.output, by rw [put_size]; exact h.size⟩
  · by_cases e : m = i ∧ q = (σ.x.mp i).rt + (j : Nat)
    · obtain ⟨rfl, rfl⟩ := e
      exact Blk.put_same hT.lt
    · have hd' : Dn σ i j m q := by
        rcases hd with hd | ⟨rfl, hd⟩
        · exact .inl hd
        · refine .inr ⟨rfl, ?_⟩
          have : q ≠ (σ.x.mp m).rt + (j : Nat) := fun e2 => e ⟨rfl, e2⟩
          omega
      exact (put_heap_ne _ _ _ _ _ (Ne.symm (hnd m hm q h1 h2 hd'))).trans (h.don m hm q h1 h2 hd')
  · have hk2 : k ≠ tb i ((σ.x.mp i).rt + (j : Nat)) := hn i hi _ (by omega) hj (.inr ⟨rfl, by omega⟩)
    refine (put_heap_ne _ _ _ _ _ hk2).trans (h.oth k hk fun m hm q h1 h2 hd => hn m hm q h1 h2 ?_)
    rcases hd with hd | ⟨rfl, hd⟩
    · exact .inl hd
    · exact .inr ⟨rfl, by omega⟩
theorem RI.done {N : Int} {A : Nat} {σ : SS} (hX : XInv N A σ) {w0 wr : World} {mb : Nat} {tb : Nat → Int → Nat} {own : Nat → Nat} {M : MA} (h0 : MR own w0 mb M tb σ) (h : RI w0 mb (tzN (mzN M 3) 7) tb σ 3 0 wr) :
    MR own wr mb (tzN (mzN M 3) 7) tb { σ with x := rstX σ.x } ∧ Ext own own SM w0 wr := by
  obtain ⟨t1, t2, t3, t4⟩ := tzN_rest (mzN M 3) 7
  obtain ⟨m1, m2⟩ := mzN_rest M 3
  have hmp : ∀ m, m < 3 → (rstX σ.x).mp m = mp0 (σ.x.mp m).iso := fun m hm => rstX_mp σ.x m hm
  have hkeep : ∀ b, own b ≠ 30 → own b ≠ 34 → wr.heap[b]? = w0.heap[b]? := fun b h1 h2 => h.oth b (fun e => h1 (by rw [e]; exact h0.omb)) (fun m hm q q1 q2 _ e => h2 (by rw [e]; exact h0.otx m hm q q1 q2))
  refine ⟨⟨h.blk, fun m hm => ?_, fun m hm q h1 h2 => ?_, fun m q m' q' hm hm' h1 h2 _ _ _ => ?_, fun m hm => ?_, fun m hm => ?_, fun m hm => ?_, fun t ht => ?_, h0.omb, fun m hm k hk => ?_, fun m hm q h1 h2 => ?_, fun t ht h1 h2 b hb => ?_, fun t ht => ?_, fun t ht k hk => ?_, fun t ht k hk => ?_⟩, ⟨h.os, h.tape, h.output, by rw [h.size]; exact Nat.le_refl _, fun _ _ => rfl, fun b _ hs => hkeep b (fun e => hs (by rw [e]; unfold SM; omega)) (fun e => hs (by rw [e]; unfold SM; omega))⟩⟩
  · show Sl wr ((tzN (mzN M 3) 7).q m) 99 1 (((rstX σ.x).mp m).iss - ((rstX σ.x).mp m).rt).toNat (qrow tb m ((rstX σ.x).mp m).rt (((rstX σ.x).mp m).iss - ((rstX σ.x).mp m).rt).toNat)
    rw [t1, mzN_q, if_pos hm, hmp m hm]
    exact Sl.nil wr 99 1
  · have h1 : ((rstX σ.x).mp m).rt ≤ q := h1
    have h2 : q < ((rstX σ.x).mp m).iss := h2
    rw [hmp m hm] at h1 h2
    have h1 : (0 : Int) ≤ q := h1
    have h2 : q < (0 : Int) := h2
    omega
  · have h1 : ((rstX σ.x).mp m).rt ≤ q := h1
    have h2 : q < ((rstX σ.x).mp m).iss := h2
    rw [hmp m hm] at h1 h2
    have h1 : (0 : Int) ≤ q := h1
    have h2 : q < (0 : Int) := h2
    omega
  · show (tzN (mzN M 3) 7).ac m = ((rstX σ.x).mp m).iss
    rw [t2, mzN_ac, if_pos hm, hmp m hm]; rfl
  · show (tzN (mzN M 3) 7).tk m = ((rstX σ.x).mp m).tk
    rw [t3, mzN_tk, if_pos hm, hmp m hm]; rfl
  · show (tzN (mzN M 3) 7).ba m = ((rstX σ.x).mp m).iso
    rw [t4, m1, hmp m hm]; exact h0.ba m hm
  · have kk := h0.tgt t ht
    rw [tzN_tg, if_pos ht, m2]
    have htp : (rstX σ.x).tp t = { σ.x.tp t with orph := (σ.x.tp t).busy, turn := 0 } := rstX_tp σ.x t ht
    refine ⟨kk.words.same (hkeep _ (by rw [h0.owm t ht]; omega) (by rw [h0.owm t ht]; omega)), kk.plans.same fun b hb => hkeep b (by rw [h0.opl t ht b hb]; omega) (by rw [h0.opl t ht b hb]; omega), kk.acted.same fun b hb => hkeep b (by rw [h0.oac t ht b hb]; omega) (by rw [h0.oac t ht b hb]; omega), ?_, ?_, ?_, ?_, ?_, ?_⟩
    · show ((rstX σ.x).tp t).busy = false → _
      rw [htp]; exact kk.free
    · intro hf
      have hf : ((rstX σ.x).tp t).busy = true ∧ ((rstX σ.x).tp t).orph = false := hf
      rw [htp] at hf
      obtain ⟨f1, f2⟩ := hf
      have f1 : (σ.x.tp t).busy = true := f1
      have f2 : (σ.x.tp t).busy = false := f2
      rw [f1] at f2; cases f2
    · show ((rstX σ.x).tp t).busy = true → ((rstX σ.x).tp t).orph = true → _
      rw [htp]
      intro h1 _
      have h1 : (σ.x.tp t).busy = true := h1
      have hemp : ∀ m q, m < 3 → ((rstX σ.x).mp m).rt ≤ q → q < ((rstX σ.x).mp m).iss → False := fun m q hm q1 q2 => by
        rw [hmp m hm] at q1 q2
        have q1 : (0 : Int) ≤ q := q1
        have q2 : q < (0 : Int) := q2
        omega
      cases ho : (σ.x.tp t).orph
      · have hf : flying σ.x t := ⟨h1, ho⟩
        obtain ⟨f1, f2, _⟩ := hX.fly t ht hf
        have hm3 : mo σ.x t < 3 := by have := hX.tm t ht; unfold mo; omega
        have hc := hX.cnt _ hm3
        exact ⟨_, _, kk.live hf, h.don _ hm3 _ f1 (by omega) (.inl hm3), rfl, fun m q hm q1 q2 => (hemp m q hm q1 q2).elim⟩
      · obtain ⟨b, y, z1, z2, z3, z4⟩ := kk.gone h1 ho
        have hb := h0.ogn t ht h1 ho b z1
        exact ⟨b, y, z1, (h.oth b (fun e => by rw [e, h0.omb] at hb; omega) (fun m hm q q1 q2 _ => z4 m q hm q1 q2)).trans z2, z3, fun m q hm q1 q2 => (hemp m q hm q1 q2).elim⟩
    · show ((rstX σ.x).tp t).busy = true → _
      rw [htp]; exact kk.left
    · show (0 : Int) = ((rstX σ.x).tp t).turn
      rw [htp]
    · show (M.tg t).is = ((rstX σ.x).tp t).iso
      rw [htp]; exact kk.iso
  · have hk : ((tzN (mzN M 3) 7).q m).ownBlock = some k := hk
    rw [t1, mzN_q, if_pos hm] at hk
    cases hk
  · have h1 : ((rstX σ.x).mp m).rt ≤ q := h1
    have h2 : q < ((rstX σ.x).mp m).iss := h2
    rw [hmp m hm] at h1 h2
    have h1 : (0 : Int) ≤ q := h1
    have h2 : q < (0 : Int) := h2
    omega
  · rw [tzN_tg, if_pos ht, m2] at hb
    have hb : (M.tg t).sv = .pointer (some ⟨b, 0, none⟩) := hb
    have h1 : ((rstX σ.x).tp t).busy = true := h1
    have htp : (rstX σ.x).tp t = { σ.x.tp t with orph := (σ.x.tp t).busy, turn := 0 } := rstX_tp σ.x t ht
    rw [htp] at h1
    have h1 : (σ.x.tp t).busy = true := h1
    cases ho : (σ.x.tp t).orph
    · have hf : flying σ.x t := ⟨h1, ho⟩
      obtain ⟨f1, f2, _⟩ := hX.fly t ht hf
      have hm3 : mo σ.x t < 3 := by have := hX.tm t ht; unfold mo; omega
      have hc := hX.cnt _ hm3
      have hl := (h0.tgt t ht).live hf
      rw [hb] at hl
      injection hl with hl; injection hl with hl; injection hl with hl
      rw [hl]; exact h0.otx _ hm3 _ f1 (by omega)
    · exact h0.ogn t ht h1 ho b hb
  · rw [tzN_tg, if_pos ht, m2]; exact h0.owm t ht
  · rw [tzN_tg, if_pos ht, m2] at hk; exact h0.opl t ht k hk
  · rw [tzN_tg, if_pos ht, m2] at hk; exact h0.oac t ht k hk
end Go.Proofs.Qxb6500750aDoor
