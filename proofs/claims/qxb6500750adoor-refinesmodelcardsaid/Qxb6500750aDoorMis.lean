import Derived.Test.Qxb6500750aDoorMt8
import Derived.Test.Qxb6500750aDoorQt
namespace Go.Proofs.Qxb6500750aDoor
open Go.RowKit
/-! ### The machine's issue -/
def tbN (tb : Nat → Int → Nat) (m : Nat) (q : Int) (nb : Nat) : Nat → Int → Nat := fun m' q' => if m' = m ∧ q' = q then nb else tb m' q'
def newT (m : Nat) (q : Int) (r : Req) : TX := ⟨(m : Nat), q, r, false, false, false, ⟨true, q, 0, 0, 0, 0⟩⟩
theorem qrow_snoc (tb : Nat → Int → Nat) (m : Nat) (r : Int) (L : Nat) (nb : Nat) : qrow tb m r L ++ [.pointer (some ⟨nb, 0, none⟩)] = qrow (tbN tb m (r + (L : Nat)) nb) m r (L + 1) := by
  unfold qrow
  rw [List.range_succ, List.map_append]
  congr 1
  · apply List.map_congr_left
    intro i hi
    have hi := List.mem_range.1 hi
    unfold tbN
    rw [if_neg (fun e => by omega)]
  · simp [tbN]
theorem MR.off {N : Int} {A : Nat} {σ : SS} (hX : XInv N A σ) {own own' : Nat → Nat} {w w' : World} {mb nb : Nat} {M : MA} {tb : Nat → Int → Nat} {m : Nat} (hm : m < 3) (r : Req) (h : MR own w mb M tb σ) (h4 : (σ.x.mp m).iss - (σ.x.mp m).rt < 4) {v' : Value}
    (hx : Ext own own' (fun k => k = 30 ∨ k = 31 + m) w w') (hnb : w.heap.size ≤ nb) (honb : own' nb = 34)
    (hblk : Blk w' mb (encM { M with q := upd M.q m v', ac := upd M.ac m ((σ.x.mp m).iss + 1), tk := upd M.tk m true }) 104)
    (hT : Blk w' nb (encT (newT m (σ.x.mp m).iss r)) 148)
    (hS : Sl w' v' 99 1 (((σ.x.mp m).iss - (σ.x.mp m).rt).toNat + 1) (qrow tb m (σ.x.mp m).rt ((σ.x.mp m).iss - (σ.x.mp m).rt).toNat ++ [.pointer (some ⟨nb, 0, none⟩)]))
    (hov : ∀ k, v'.ownBlock = some k → own' k = 31 + m) :
    MR own' w' mb { M with q := upd M.q m v', ac := upd M.ac m ((σ.x.mp m).iss + 1), tk := upd M.tk m true } (tbN tb m (σ.x.mp m).iss nb) { σ with x := offX σ.x m r } := by
  have hc := hX.cnt m hm
  have hmp : ∀ m', (offX σ.x m r).mp m' = if m' = m then { σ.x.mp m with sl := upd (σ.x.mp m).sl ((σ.x.mp m).iss % 4).toNat ⟨r, 0, ⟨true, (σ.x.mp m).iss, 0, 0, 0, 0⟩⟩, iss := (σ.x.mp m).iss + 1, tk := true } else σ.x.mp m' := fun m' => rfl
  have htp : (offX σ.x m r).tp = σ.x.tp := rfl
  have hrt : ∀ m', ((offX σ.x m r).mp m').rt = (σ.x.mp m').rt ∧ ((offX σ.x m r).mp m').gr = (σ.x.mp m').gr ∧ ((offX σ.x m r).mp m').iso = (σ.x.mp m').iso := fun m' => by
    rw [hmp]
    by_cases e : m' = m
    · subst e; rw [if_pos rfl]; exact ⟨rfl, rfl, rfl⟩
    · rw [if_neg e]; exact ⟨rfl, rfl, rfl⟩
  have hiss : ∀ m', ((offX σ.x m r).mp m').iss = if m' = m then (σ.x.mp m).iss + 1 else (σ.x.mp m').iss := fun m' => by
    rw [hmp]
    by_cases e : m' = m
    · subst e; rw [if_pos rfl, if_pos rfl]
    · rw [if_neg e, if_neg e]
  have hold : ∀ m' q, (m' ≠ m ∨ q ≠ (σ.x.mp m).iss) → q < ((offX σ.x m r).mp m').iss → q < (σ.x.mp m').iss := fun m' q ho hq => by
    rw [hiss] at hq
    by_cases e : m' = m
    · subst e; rw [if_pos rfl] at hq; rcases ho with ho | ho
      · exact absurd rfl ho
      · omega
    · rw [if_neg e] at hq; exact hq
  have htb : ∀ m' q, (m' ≠ m ∨ q ≠ (σ.x.mp m).iss) → tbN tb m (σ.x.mp m).iss nb m' q = tb m' q := fun m' q ho => by
    unfold tbN; rw [if_neg (fun e => by rcases ho with ho | ho; · exact ho e.1
                                        exact ho e.2)]
  have htbn : tbN tb m (σ.x.mp m).iss nb m (σ.x.mp m).iss = nb := by unfold tbN; rw [if_pos ⟨rfl, rfl⟩]
  have hem : ∀ m' q, (m' ≠ m ∨ q ≠ (σ.x.mp m).iss) ∨ (m' = m ∧ q = (σ.x.mp m).iss) := fun m' q => by
    by_cases e : m' = m
    · by_cases e2 : q = (σ.x.mp m).iss
      · exact .inr ⟨e, e2⟩
      · exact .inl (.inr e2)
    · exact .inl (.inl e)
  have htx : ∀ m' q, m' < 3 → (σ.x.mp m').rt ≤ q → q < (σ.x.mp m').iss → txOf (offX σ.x m r) m' q = txOf σ.x m' q := fun m' q _ h1 h2 => by
    unfold txOf slq
    rw [(hrt m').2.1]
    by_cases e : m' = m
    · subst e
      rw [hmp, if_pos rfl]
      simp only []
      rw [upd_ne _ _ _ _ (fun e => by have := window hc.1 h1 (by omega) (by omega) (by omega) e; omega)]
    · rw [hmp, if_neg e]
  have htxn : txOf (offX σ.x m r) m (σ.x.mp m).iss = newT m (σ.x.mp m).iss r := by
    unfold txOf slq newT
    rw [hmp, if_pos rfl]
    simp only [upd_same]
    rw [decide_eq_false (by omega)]
    rfl
  refine ⟨hblk, fun m' hm' => ?_, fun m' hm' q h1 h2 => ?_, fun m1 q1 m2 q2 hm1 hm2 h1 h2 h3 h4 he => ?_, fun m' hm' => ?_, fun m' hm' => ?_, fun m' hm' => ?_, fun t ht => ?_, (hx.keep _ h.blk.lt).trans h.omb, fun m' hm' b hb => ?_, fun m' hm' q h1 h2 => ?_, fun t ht h1 h2 b hb => ?_, fun t ht => ?_, fun t ht k hk => ?_, fun t ht k hk => ?_⟩
  · show Sl w' (upd M.q m v' m') 99 1 (((offX σ.x m r).mp m').iss - ((offX σ.x m r).mp m').rt).toNat (qrow (tbN tb m (σ.x.mp m).iss nb) m' ((offX σ.x m r).mp m').rt (((offX σ.x m r).mp m').iss - ((offX σ.x m r).mp m').rt).toNat)
    rw [hiss, (hrt m').1]
    by_cases e : m' = m
    · subst e
      rw [if_pos rfl, upd_same]
      have hL : ((σ.x.mp m').iss + 1 - (σ.x.mp m').rt).toNat = ((σ.x.mp m').iss - (σ.x.mp m').rt).toNat + 1 := by omega
      have hq := qrow_snoc tb m' (σ.x.mp m').rt ((σ.x.mp m').iss - (σ.x.mp m').rt).toNat nb
      have hi : (σ.x.mp m').rt + (((σ.x.mp m').iss - (σ.x.mp m').rt).toNat : Nat) = (σ.x.mp m').iss := by omega
      rw [hi] at hq
      rw [hL, ← hq]
      exact hS
    · rw [if_neg e, upd_ne _ _ _ _ e]
      have hq : qrow (tbN tb m (σ.x.mp m).iss nb) m' (σ.x.mp m').rt ((σ.x.mp m').iss - (σ.x.mp m').rt).toNat = qrow tb m' (σ.x.mp m').rt ((σ.x.mp m').iss - (σ.x.mp m').rt).toNat := by
        unfold qrow
        apply List.map_congr_left
        intro i _
        rw [htb m' _ (.inl e)]
      rw [hq]
      exact (h.queue m' hm').same fun b hb => hx.block b ((h.queue m' hm').lt b hb) (fun hs => by have := h.oq m' hm' b hb; omega)
  · have h1 : ((offX σ.x m r).mp m').rt ≤ q := h1
    rw [(hrt m').1] at h1
    rcases hem m' q with ho | ⟨rfl, rfl⟩
    · have h2' := hold m' q ho h2
      show Blk w' (tbN tb m (σ.x.mp m).iss nb m' q) (encT (txOf (offX σ.x m r) m' q)) 148
      rw [htb m' q ho, htx m' q hm' h1 h2']
      exact (h.tx m' hm' q h1 h2').ext hx (by rw [h.otx m' hm' q h1 h2']; omega)
    · show Blk w' (tbN tb m' (σ.x.mp m').iss nb m' (σ.x.mp m').iss) (encT (txOf (offX σ.x m' r) m' (σ.x.mp m').iss)) 148
      rw [htbn, htxn]; exact hT
  · have k1 : ((offX σ.x m r).mp m1).rt ≤ q1 := h1
    have k3 : ((offX σ.x m r).mp m2).rt ≤ q2 := h3
    rw [(hrt _).1] at k1 k3
    rcases hem m1 q1 with o1 | ⟨rfl, rfl⟩
    · rcases hem m2 q2 with o2 | ⟨rfl, rfl⟩
      · rw [htb _ _ o1, htb _ _ o2] at he
        exact h.inj m1 q1 m2 q2 hm1 hm2 k1 (hold _ _ o1 h2) k3 (hold _ _ o2 h4) he
      · rw [htb _ _ o1, htbn] at he
        have := (h.tx m1 hm1 q1 k1 (hold _ _ o1 h2)).lt
        omega
    · rcases hem m2 q2 with o2 | ⟨rfl, rfl⟩
      · rw [htb _ _ o2, htbn] at he
        have := (h.tx m2 hm2 q2 k3 (hold _ _ o2 h4)).lt
        omega
      · exact ⟨rfl, rfl⟩
  · show upd M.ac m ((σ.x.mp m).iss + 1) m' = ((offX σ.x m r).mp m').iss
    rw [hiss]
    by_cases e : m' = m
    · subst e; rw [if_pos rfl, upd_same]
    · rw [if_neg e, upd_ne _ _ _ _ e]; exact h.ac m' hm'
  · show upd M.tk m true m' = ((offX σ.x m r).mp m').tk
    rw [hmp]
    by_cases e : m' = m
    · subst e; rw [if_pos rfl, upd_same]
    · rw [if_neg e, upd_ne _ _ _ _ e]; exact h.tk m' hm'
  · show M.ba m' = ((offX σ.x m r).mp m').iso
    rw [(hrt m').2.2]; exact h.ba m' hm'
  · have kk := h.tgt t ht
    refine ⟨kk.words.same (hx.block _ kk.words.lt (fun hs => by have := h.owm t ht; omega)), kk.plans.same fun b hb => hx.block b (kk.plans.lt b hb) (fun hs => by have := h.opl t ht b hb; omega), kk.acted.same fun b hb => hx.block b (kk.acted.lt b hb) (fun hs => by have := h.oac t ht b hb; omega), kk.free, fun hf => ?_, fun h1 h2 => ?_, kk.left, kk.turn, kk.iso⟩
    · have hf : flying σ.x t := hf
      obtain ⟨f1, f2, _⟩ := hX.fly t ht hf
      have hm3 : mo σ.x t < 3 := by have := hX.tm t ht; unfold mo; omega
      have hcm := hX.cnt _ hm3
      show (M.tg t).sv = .pointer (some ⟨tbN tb m (σ.x.mp m).iss nb (mo σ.x t) (σ.x.tp t).sq, 0, none⟩)
      rw [htb]
      · exact kk.live hf
      · by_cases e : mo σ.x t = m
        · right; rw [e] at f2 hcm; omega
        · exact .inl e
    · obtain ⟨b, y, z1, z2, z3, z4⟩ := kk.gone h1 h2
      refine ⟨b, y, z1, z2.ext hx (by rw [h.ogn t ht h1 h2 b z1]; omega), z3, fun m' q hm' q1 q2 => ?_⟩
      have q1 : ((offX σ.x m r).mp m').rt ≤ q := q1
      rw [(hrt m').1] at q1
      rcases hem m' q with o1 | ⟨rfl, rfl⟩
      · show b ≠ tbN tb m (σ.x.mp m).iss nb m' q
        rw [htb _ _ o1]; exact z4 m' q hm' q1 (hold _ _ o1 q2)
      · show b ≠ tbN tb m' (σ.x.mp m').iss nb m' (σ.x.mp m').iss
        rw [htbn]; have := z2.lt; omega
  · have hb : (upd M.q m v' m').ownBlock = some b := hb
    by_cases e : m' = m
    · subst e; rw [upd_same] at hb; exact hov b hb
    · rw [upd_ne _ _ _ _ e] at hb; exact (hx.keep b ((h.queue m' hm').lt b hb)).trans (h.oq m' hm' b hb)
  · have h1 : ((offX σ.x m r).mp m').rt ≤ q := h1
    rw [(hrt m').1] at h1
    rcases hem m' q with o1 | ⟨rfl, rfl⟩
    · have h2' := hold m' q o1 h2
      show own' (tbN tb m (σ.x.mp m).iss nb m' q) = 34
      rw [htb _ _ o1]; exact (hx.keep _ (h.tx m' hm' q h1 h2').lt).trans (h.otx m' hm' q h1 h2')
    · show own' (tbN tb m' (σ.x.mp m').iss nb m' (σ.x.mp m').iss) = 34
      rw [htbn]; exact honb
  · obtain ⟨b', y, e1, e2, _⟩ := (h.tgt t ht).gone h1 h2
    have : b' = b := by
      have hb : (M.tg t).sv = .pointer (some ⟨b, 0, none⟩) := hb
      rw [e1] at hb; injection hb with hb; injection hb with hb; injection hb
    subst this
    exact (hx.keep _ e2.lt).trans (h.ogn t ht h1 h2 b' hb)
  · exact (hx.keep _ (h.tgt t ht).words.lt).trans (h.owm t ht)
  · exact (hx.keep k ((h.tgt t ht).plans.lt k hk)).trans (h.opl t ht k hk)
  · exact (hx.keep k ((h.tgt t ht).acted.lt k hk)).trans (h.oac t ht k hk)
end Go.Proofs.Qxb6500750aDoor
