import Derived.Test.Qxb6500750aDoorMis2
namespace Go.Proofs.Qxb6500750aDoor
open Go.RowKit
/-! ### The machine's isolate, plain -/
/-- One transaction cancelled. -/
def canT (x : TX) : TX := { x with gr := true, dn := true, an := { x.an with st := 4 } }
theorem MR.cancel {N : Int} {A : Nat} {σ : SS} (hX : XInv N A σ) {own : Nat → Nat} {w : World} {mb : Nat} {M : MA} {tb : Nat → Int → Nat} {m : Nat} (hm : m < 3) (h : MR own w mb M tb σ) (hg : (σ.x.mp m).gr < (σ.x.mp m).iss) :
    MR own (put w (tb m (σ.x.mp m).gr) (encT (canT (txOf σ.x m (σ.x.mp m).gr))) 148) mb M tb { σ with x := cancelT σ.x m } := by
  have hc := hX.cnt m hm
  have hT := h.tx m hm (σ.x.mp m).gr (by omega) hg
  have hoT := h.otx m hm (σ.x.mp m).gr (by omega) hg
  have hmp : ∀ m', (cancelT σ.x m).mp m' = if m' = m then { σ.x.mp m with sl := upd (σ.x.mp m).sl ((σ.x.mp m).gr % 4).toNat (cancelS ((σ.x.mp m).sl ((σ.x.mp m).gr % 4).toNat)), gr := (σ.x.mp m).gr + 1 } else σ.x.mp m' := fun m' => rfl
  have hk : ∀ m', ((cancelT σ.x m).mp m').iss = (σ.x.mp m').iss ∧ ((cancelT σ.x m).mp m').rt = (σ.x.mp m').rt ∧ ((cancelT σ.x m).mp m').tk = (σ.x.mp m').tk ∧ ((cancelT σ.x m).mp m').iso = (σ.x.mp m').iso := fun m' => by
    rw [hmp]
    by_cases e : m' = m
    · subst e; rw [if_pos rfl]; exact ⟨rfl, rfl, rfl, rfl⟩
    · rw [if_neg e]; exact ⟨rfl, rfl, rfl, rfl⟩
  have hsame : ∀ b, b ≠ tb m (σ.x.mp m).gr → (put w (tb m (σ.x.mp m).gr) (encT (canT (txOf σ.x m (σ.x.mp m).gr))) 148).heap[b]? = w.heap[b]? := fun b hb => put_heap_ne _ _ _ _ _ hb
  have hne : ∀ b, own b ≠ 34 → b ≠ tb m (σ.x.mp m).gr := fun b hb e => hb (by rw [e]; exact hoT)
  refine ⟨(hsame mb (hne mb (by rw [h.omb]; omega))).trans h.blk, fun m' hm' => ?_, fun m' hm' q h1 h2 => ?_, fun m1 q1 m2 q2 hm1 hm2 h1 h2 h3 h4 he => ?_, fun m' hm' => ?_, fun m' hm' => ?_, fun m' hm' => ?_, fun t ht => ?_, h.omb, h.oq, fun m' hm' q h1 h2 => ?_, fun t ht h1 h2 b hb => h.ogn t ht h1 h2 b hb, h.owm, h.opl, h.oac⟩
  · show Sl _ (M.q m') 99 1 (((cancelT σ.x m).mp m').iss - ((cancelT σ.x m).mp m').rt).toNat (qrow tb m' ((cancelT σ.x m).mp m').rt (((cancelT σ.x m).mp m').iss - ((cancelT σ.x m).mp m').rt).toNat)
    rw [(hk m').1, (hk m').2.1]
    exact (h.queue m' hm').same fun b hb => hsame b (hne b (by rw [h.oq m' hm' b hb]; omega))
  · have k1 : ((cancelT σ.x m).mp m').rt ≤ q := h1
    have k2 : q < ((cancelT σ.x m).mp m').iss := h2
    rw [(hk m').2.1] at k1
    rw [(hk m').1] at k2
    show Blk _ (tb m' q) (encT (txOf (cancelT σ.x m) m' q)) 148
    by_cases e : m' = m ∧ q = (σ.x.mp m).gr
    · obtain ⟨rfl, rfl⟩ := e
      have ht : txOf (cancelT σ.x m') m' (σ.x.mp m').gr = canT (txOf σ.x m' (σ.x.mp m').gr) := by
        unfold txOf canT slq
        rw [hmp, if_pos rfl]
        simp only [upd_same]
        rw [decide_eq_true (by omega)]
        rfl
      rw [ht]
      exact Blk.put_same hT.lt
    · have ht : txOf (cancelT σ.x m) m' q = txOf σ.x m' q := by
        unfold txOf slq
        by_cases e2 : m' = m
        · subst e2
          have hq : q ≠ (σ.x.mp m').gr := fun e3 => e ⟨rfl, e3⟩
          rw [hmp, if_pos rfl]
          simp only []
          rw [upd_ne _ _ _ _ (fun e3 => hq (window hc.1 k1 (by omega) hc.2.1 (by omega) e3))]
          have : decide (q < (σ.x.mp m').gr + 1) = decide (q < (σ.x.mp m').gr) := by
            by_cases h : q < (σ.x.mp m').gr
            · rw [decide_eq_true h, decide_eq_true (by omega)]
            · rw [decide_eq_false h, decide_eq_false (by omega)]
          rw [this]
        · rw [hmp, if_neg e2]
      rw [ht]
      refine (hsame _ (fun hb => ?_)).trans (h.tx m' hm' q k1 k2)
      exact e (h.inj m' q m _ hm' hm k1 k2 (by omega) hg hb)
  · have k1 : ((cancelT σ.x m).mp m1).rt ≤ q1 := h1
    have k2 : q1 < ((cancelT σ.x m).mp m1).iss := h2
    have k3 : ((cancelT σ.x m).mp m2).rt ≤ q2 := h3
    have k4 : q2 < ((cancelT σ.x m).mp m2).iss := h4
    rw [(hk _).2.1] at k1 k3
    rw [(hk _).1] at k2 k4
    exact h.inj m1 q1 m2 q2 hm1 hm2 k1 k2 k3 k4 he
  · show M.ac m' = ((cancelT σ.x m).mp m').iss
    rw [(hk m').1]; exact h.ac m' hm'
  · show M.tk m' = ((cancelT σ.x m).mp m').tk
    rw [(hk m').2.2.1]; exact h.tk m' hm'
  · show M.ba m' = ((cancelT σ.x m).mp m').iso
    rw [(hk m').2.2.2]; exact h.ba m' hm'
  · have kk := h.tgt t ht
    refine ⟨kk.words.same (hsame _ (hne _ (by rw [h.owm t ht]; omega))), kk.plans.same fun b hb => hsame b (hne b (by rw [h.opl t ht b hb]; omega)), kk.acted.same fun b hb => hsame b (hne b (by rw [h.oac t ht b hb]; omega)), kk.free, kk.live, fun h1 h2 => ?_, kk.left, kk.turn, kk.iso⟩
    obtain ⟨b, y, z1, z2, z3, z4⟩ := kk.gone h1 h2
    refine ⟨b, y, z1, (hsame b (fun e => z4 m _ hm (by omega) hg e)).trans z2, z3, fun m' q hm' q1 q2 => ?_⟩
    have q1 : ((cancelT σ.x m).mp m').rt ≤ q := q1
    have q2 : q < ((cancelT σ.x m).mp m').iss := q2
    rw [(hk m').2.1] at q1
    rw [(hk m').1] at q2
    exact z4 m' q hm' q1 q2
  · have h1 : ((cancelT σ.x m).mp m').rt ≤ q := h1
    have h2 : q < ((cancelT σ.x m).mp m').iss := h2
    rw [(hk m').2.1] at h1
    rw [(hk m').1] at h2
    exact h.otx m' hm' q h1 h2
/-- A master barred or let in. -/
theorem MR.bar {own : Nat → Nat} {w : World} {mb : Nat} {M : MA} {tb : Nat → Int → Nat} {σ : SS} {m : Nat} (h : MR own w mb M tb σ) (on : Bool) :
    MR own (put w mb (encM { M with ba := upd M.ba m on }) 104) mb { M with ba := upd M.ba m on } tb { σ with x := σ.x.setM m { σ.x.mp m with iso := on } } := by
  have hmp : ∀ m', (σ.x.setM m { σ.x.mp m with iso := on }).mp m' = if m' = m then { σ.x.mp m with iso := on } else σ.x.mp m' := fun m' => rfl
  have hk : ∀ m', ((σ.x.setM m { σ.x.mp m with iso := on }).mp m').iss = (σ.x.mp m').iss ∧ ((σ.x.setM m { σ.x.mp m with iso := on }).mp m').rt = (σ.x.mp m').rt ∧ ((σ.x.setM m { σ.x.mp m with iso := on }).mp m').tk = (σ.x.mp m').tk ∧ (∀ q, txOf (σ.x.setM m { σ.x.mp m with iso := on }) m' q = txOf σ.x m' q) := fun m' => by
    unfold txOf slq
    rw [hmp]
    by_cases e : m' = m
    · subst e; rw [if_pos rfl]; exact ⟨rfl, rfl, rfl, fun _ => rfl⟩
    · rw [if_neg e]; exact ⟨rfl, rfl, rfl, fun _ => rfl⟩
  have hx : Ext own own (· = 30) w (put w mb (encM { M with ba := upd M.ba m on }) 104) := Ext.put h.omb
  refine ⟨Blk.put_same h.blk.lt, fun m' hm' => ?_, fun m' hm' q h1 h2 => ?_, fun m1 q1 m2 q2 hm1 hm2 h1 h2 h3 h4 he => ?_, fun m' hm' => ?_, fun m' hm' => ?_, fun m' hm' => ?_, fun t ht => ?_, h.omb, h.oq, fun m' hm' q h1 h2 => ?_, fun t ht h1 h2 b hb => h.ogn t ht h1 h2 b hb, h.owm, h.opl, h.oac⟩
  · show Sl _ (M.q m') 99 1 (((σ.x.setM m { σ.x.mp m with iso := on }).mp m').iss - ((σ.x.setM m { σ.x.mp m with iso := on }).mp m').rt).toNat (qrow tb m' ((σ.x.setM m { σ.x.mp m with iso := on }).mp m').rt (((σ.x.setM m { σ.x.mp m with iso := on }).mp m').iss - ((σ.x.setM m { σ.x.mp m with iso := on }).mp m').rt).toNat)
    rw [(hk m').1, (hk m').2.1]
    exact (h.queue m' hm').same fun b hb => hx.block b ((h.queue m' hm').lt b hb) (by rw [h.oq m' hm' b hb]; omega)
  · have h1 : ((σ.x.setM m { σ.x.mp m with iso := on }).mp m').rt ≤ q := h1
    have h2 : q < ((σ.x.setM m { σ.x.mp m with iso := on }).mp m').iss := h2
    rw [(hk m').2.1] at h1
    rw [(hk m').1] at h2
    show Blk _ (tb m' q) (encT (txOf (σ.x.setM m { σ.x.mp m with iso := on }) m' q)) 148
    rw [(hk m').2.2.2]
    exact (h.tx m' hm' q h1 h2).ext hx (by rw [h.otx m' hm' q h1 h2]; omega)
  · have k1 : ((σ.x.setM m { σ.x.mp m with iso := on }).mp m1).rt ≤ q1 := h1
    have k2 : q1 < ((σ.x.setM m { σ.x.mp m with iso := on }).mp m1).iss := h2
    have k3 : ((σ.x.setM m { σ.x.mp m with iso := on }).mp m2).rt ≤ q2 := h3
    have k4 : q2 < ((σ.x.setM m { σ.x.mp m with iso := on }).mp m2).iss := h4
    rw [(hk _).2.1] at k1 k3
    rw [(hk _).1] at k2 k4
    exact h.inj m1 q1 m2 q2 hm1 hm2 k1 k2 k3 k4 he
  · show M.ac m' = ((σ.x.setM m { σ.x.mp m with iso := on }).mp m').iss
    rw [(hk m').1]; exact h.ac m' hm'
  · show M.tk m' = ((σ.x.setM m { σ.x.mp m with iso := on }).mp m').tk
    rw [(hk m').2.2.1]; exact h.tk m' hm'
  · show upd M.ba m on m' = ((σ.x.setM m { σ.x.mp m with iso := on }).mp m').iso
    rw [hmp]
    by_cases e : m' = m
    · subst e; rw [if_pos rfl, upd_same]
    · rw [if_neg e, upd_ne _ _ _ _ e]; exact h.ba m' hm'
  · have kk := h.tgt t ht
    refine ⟨kk.words.same (hx.block _ kk.words.lt (by rw [h.owm t ht]; omega)), kk.plans.same fun b hb => hx.block b (kk.plans.lt b hb) (by rw [h.opl t ht b hb]; omega), kk.acted.same fun b hb => hx.block b (kk.acted.lt b hb) (by rw [h.oac t ht b hb]; omega), kk.free, kk.live, fun h1 h2 => ?_, kk.left, kk.turn, kk.iso⟩
    obtain ⟨b, y, z1, z2, z3, z4⟩ := kk.gone h1 h2
    refine ⟨b, y, z1, z2.ext hx (by rw [h.ogn t ht h1 h2 b z1]; omega), z3, fun m' q hm' q1 q2 => ?_⟩
    have q1 : ((σ.x.setM m { σ.x.mp m with iso := on }).mp m').rt ≤ q := q1
    have q2 : q < ((σ.x.setM m { σ.x.mp m with iso := on }).mp m').iss := q2
    rw [(hk m').2.1] at q1
    rw [(hk m').1] at q2
    exact z4 m' q hm' q1 q2
  · have h1 : ((σ.x.setM m { σ.x.mp m with iso := on }).mp m').rt ≤ q := h1
    have h2 : q < ((σ.x.setM m { σ.x.mp m with iso := on }).mp m').iss := h2
    rw [(hk m').2.1] at h1
    rw [(hk m').1] at h2
    exact h.otx m' hm' q h1 h2
/-- A target cut off or let in. -/
theorem MR.cut {own : Nat → Nat} {w : World} {mb : Nat} {M : MA} {tb : Nat → Int → Nat} {σ : SS} {t : Nat} (ht : t < 7) (h : MR own w mb M tb σ) (on : Bool) :
    MR own (put w mb (encM { M with tg := upd M.tg t { M.tg t with is := on } }) 104) mb { M with tg := upd M.tg t { M.tg t with is := on } } tb { σ with x := σ.x.setT t { σ.x.tp t with iso := on } } := by
  have kk := h.tgt t ht
  have hsame : ∀ b, own b ≠ 30 → (put w mb (encM { M with tg := upd M.tg t { M.tg t with is := on } }) 104).heap[b]? = w.heap[b]? := fun b hb => put_heap_ne _ _ _ _ _ (fun e => hb (by rw [e]; exact h.omb))
  have htt : (σ.x.setT t { σ.x.tp t with iso := on }).tp t = { σ.x.tp t with iso := on } := setT_tp _ _ _
  have htx : ∀ m q, txOf (σ.x.setT t { σ.x.tp t with iso := on }) m q = txOf σ.x m q := fun _ _ => rfl
  refine h.round ht (fun _ => False) (Ext.put (.inl h.omb)) (fun b hb h34 _ => hsame b (by omega)) (fun _ _ _ _ _ _ _ q => q) (Blk.put_same h.blk.lt) (fun m _ => ⟨rfl, rfl, rfl, rfl⟩) (fun τ _ e => ⟨by show (σ.x.setT t _).tp τ = _; rw [setT_get, if_neg e], rfl⟩) (fun m hm q h1 h2 => ?_) ?_ (h.owm t ht) (h.opl t ht) (h.oac t ht) (fun h1 h2 b hb => ?_)
  · show Blk _ (tb m q) (encT (txOf (σ.x.setT t { σ.x.tp t with iso := on }) m q)) 148
    rw [htx]
    exact (hsame _ (by rw [h.otx m hm q h1 h2]; omega)).trans (h.tx m hm q h1 h2)
  · refine ⟨kk.words.same (hsame _ (by rw [h.owm t ht]; omega)), kk.plans.same fun b hb => hsame b (by rw [h.opl t ht b hb]; omega), kk.acted.same fun b hb => hsame b (by rw [h.oac t ht b hb]; omega), ?_, ?_, ?_, ?_, ?_, ?_⟩
    · show ((σ.x.setT t { σ.x.tp t with iso := on }).tp t).busy = false → _
      rw [htt]; exact kk.free
    · show flying (σ.x.setT t { σ.x.tp t with iso := on }) t → (M.tg t).sv = .pointer (some ⟨tb (mo (σ.x.setT t { σ.x.tp t with iso := on }) t) ((σ.x.setT t { σ.x.tp t with iso := on }).tp t).sq, 0, none⟩)
      unfold flying mo
      rw [htt]; exact kk.live
    · show ((σ.x.setT t { σ.x.tp t with iso := on }).tp t).busy = true → ((σ.x.setT t { σ.x.tp t with iso := on }).tp t).orph = true → _
      rw [htt]; intro h1 h2
      obtain ⟨b, y, z1, z2, z3, z4⟩ := kk.gone h1 h2
      exact ⟨b, y, z1, (hsame b (by rw [h.ogn t ht h1 h2 b z1]; omega)).trans z2, z3, z4⟩
    · show ((σ.x.setT t { σ.x.tp t with iso := on }).tp t).busy = true → _
      rw [htt]; exact kk.left
    · show (M.tg t).tu = ((σ.x.setT t { σ.x.tp t with iso := on }).tp t).turn
      rw [htt]; exact kk.turn
    · show on = ((σ.x.setT t { σ.x.tp t with iso := on }).tp t).iso
      rw [htt]
  · have h1 : ((σ.x.setT t { σ.x.tp t with iso := on }).tp t).busy = true := h1
    have h2 : ((σ.x.setT t { σ.x.tp t with iso := on }).tp t).orph = true := h2
    rw [htt] at h1 h2
    exact h.ogn t ht h1 h2 b hb
end Go.Proofs.Qxb6500750aDoor
