import Derived.Test.Qxb6500750aDoorMrl
namespace Go.Proofs.Qxb6500750aDoor
open Go.RowKit
/-! ### The machine, when one target turns -/
/-- The marks that a turn at target t may touch. -/
def SR (t : Nat) (k : Nat) : Prop := k = 30 ∨ k = 34 ∨ k = 49 ∨ k = 60 + t ∨ k = 70 + t ∨ k = 80 + t
theorem MR.round {own own' : Nat → Nat} {w w' : World} {mb : Nat} {M : MA} {tb : Nat → Int → Nat} {σ σ' : SS} {t : Nat} (ht : t < 7) (Bad : Nat → Prop) {g' : TG} (h : MR own w mb M tb σ)
    (hx : Ext own own' (SR t) w w')
    (hb0 : ∀ b, b < w.heap.size → own b = 34 → ¬ Bad b → w'.heap[b]? = w.heap[b]?)
    (hgone : ∀ τ, τ < 7 → τ ≠ t → (σ.x.tp τ).busy = true → (σ.x.tp τ).orph = true → ∀ b, (M.tg τ).sv = .pointer (some ⟨b, 0, none⟩) → ¬ Bad b)
    (hblk : Blk w' mb (encM { M with tg := upd M.tg t g' }) 104)
    (hmp : ∀ m, m < 3 → (σ'.x.mp m).iss = (σ.x.mp m).iss ∧ (σ'.x.mp m).rt = (σ.x.mp m).rt ∧ (σ'.x.mp m).tk = (σ.x.mp m).tk ∧ (σ'.x.mp m).iso = (σ.x.mp m).iso)
    (hfar : ∀ τ, τ < 7 → τ ≠ t → σ'.x.tp τ = σ.x.tp τ ∧ σ'.p τ = σ.p τ)
    (htx : ∀ m, m < 3 → ∀ q, (σ.x.mp m).rt ≤ q → q < (σ.x.mp m).iss → Blk w' (tb m q) (encT (txOf σ'.x m q)) 148)
    (hg : TGOK w' tb σ' t g')
    (owm : own' g'.wm = 60 + t) (opl : ∀ k, g'.pv.ownBlock = some k → own' k = 70 + t) (oac : ∀ k, g'.av.ownBlock = some k → own' k = 80 + t)
    (ogn : (σ'.x.tp t).busy = true → (σ'.x.tp t).orph = true → ∀ b, g'.sv = .pointer (some ⟨b, 0, none⟩) → own' b = 34) :
    MR own' w' mb { M with tg := upd M.tg t g' } tb σ' where
  blk := hblk
  queue := fun m hm => by
    obtain ⟨e1, e2, _, _⟩ := hmp m hm
    rw [e1, e2]
    exact (h.queue m hm).same fun k hk => hx.block k ((h.queue m hm).lt k hk) (fun hs => by have := h.oq m hm k hk; unfold SR at hs; omega)
  tx := fun m hm q h1 h2 => by
    obtain ⟨e1, e2, _, _⟩ := hmp m hm
    rw [e2] at h1; rw [e1] at h2
    exact htx m hm q h1 h2
  inj := fun m q m' q' hm hm' h1 h2 h3 h4 => by
    obtain ⟨e1, e2, _, _⟩ := hmp m hm
    obtain ⟨f1, f2, _, _⟩ := hmp m' hm'
    rw [e2] at h1; rw [e1] at h2; rw [f2] at h3; rw [f1] at h4
    exact h.inj m q m' q' hm hm' h1 h2 h3 h4
  ac := fun m hm => by rw [(hmp m hm).1]; exact h.ac m hm
  tk := fun m hm => by rw [(hmp m hm).2.2.1]; exact h.tk m hm
  ba := fun m hm => by rw [(hmp m hm).2.2.2]; exact h.ba m hm
  tgt := fun τ hτ => by
    by_cases e : τ = t
    · subst e; show TGOK w' tb σ' τ (upd M.tg τ g' τ); rw [upd_same]; exact hg
    · show TGOK w' tb σ' τ (upd M.tg t g' τ)
      rw [upd_ne _ _ _ _ e]
      obtain ⟨e1, e2⟩ := hfar τ hτ e
      have k := h.tgt τ hτ
      refine ⟨?_, ?_, ?_, ?_, ?_, ?_, ?_, ?_, ?_⟩
      · rw [e2]; exact k.words.same (hx.block _ k.words.lt (fun hs => by have := h.owm τ hτ; unfold SR at hs; omega))
      · rw [e2]; exact k.plans.same fun b hb => hx.block b (k.plans.lt b hb) (fun hs => by have := h.opl τ hτ b hb; unfold SR at hs; omega)
      · rw [e2]; exact k.acted.same fun b hb => hx.block b (k.acted.lt b hb) (fun hs => by have := h.oac τ hτ b hb; unfold SR at hs; omega)
      · rw [e1]; exact k.free
      · have hf : flying σ'.x τ → flying σ.x τ := by unfold flying; rw [e1]; exact id
        have hmo : mo σ'.x τ = mo σ.x τ := by unfold mo; rw [e1]
        rw [hmo, e1]; exact fun hh => k.live (hf hh)
      · rw [e1]
        intro h1 h2
        obtain ⟨b, y, z1, z2, z3, z4⟩ := k.gone h1 h2
        refine ⟨b, y, z1, ?_, z3, fun m q hm q1 q2 => ?_⟩
        · exact (hb0 b z2.lt (h.ogn τ hτ h1 h2 b z1) (hgone τ hτ e h1 h2 b z1)).trans z2
        · obtain ⟨f1, f2, _, _⟩ := hmp m hm
          rw [f2] at q1; rw [f1] at q2
          exact z4 m q hm q1 q2
      · rw [e1, e2]; exact k.left
      · rw [e1]; exact k.turn
      · rw [e1]; exact k.iso
  omb := (hx.keep _ h.blk.lt).trans h.omb
  oq := fun m hm k hk => (hx.keep k ((h.queue m hm).lt k hk)).trans (h.oq m hm k hk)
  otx := fun m hm q h1 h2 => by
    obtain ⟨e1, e2, _, _⟩ := hmp m hm
    rw [e2] at h1; rw [e1] at h2
    exact (hx.keep _ (h.tx m hm q h1 h2).lt).trans (h.otx m hm q h1 h2)
  ogn := fun τ hτ h1 h2 b hb => by
    by_cases e : τ = t
    · subst e
      have hb : (upd M.tg τ g' τ).sv = _ := hb
      rw [upd_same] at hb
      exact ogn h1 h2 b hb
    · have hb : (upd M.tg t g' τ).sv = _ := hb
      rw [upd_ne _ _ _ _ e] at hb
      rw [(hfar τ hτ e).1] at h1 h2
      obtain ⟨b', y, e1, e2, _⟩ := (h.tgt τ hτ).gone h1 h2
      have : b' = b := by rw [e1] at hb; injection hb with hb; injection hb with hb; injection hb
      subst this
      exact (hx.keep _ e2.lt).trans (h.ogn τ hτ h1 h2 b' hb)
  owm := fun τ hτ => by
    by_cases e : τ = t
    · subst e; show own' (upd M.tg τ g' τ).wm = _; rw [upd_same]; exact owm
    · show own' (upd M.tg t g' τ).wm = _; rw [upd_ne _ _ _ _ e]
      exact (hx.keep _ (h.tgt τ hτ).words.lt).trans (h.owm τ hτ)
  opl := fun τ hτ k hk => by
    by_cases e : τ = t
    · subst e
      have hk : (upd M.tg τ g' τ).pv.ownBlock = _ := hk
      rw [upd_same] at hk; exact opl k hk
    · have hk : (upd M.tg t g' τ).pv.ownBlock = _ := hk
      rw [upd_ne _ _ _ _ e] at hk
      exact (hx.keep k ((h.tgt τ hτ).plans.lt k hk)).trans (h.opl τ hτ k hk)
  oac := fun τ hτ k hk => by
    by_cases e : τ = t
    · subst e
      have hk : (upd M.tg τ g' τ).av.ownBlock = _ := hk
      rw [upd_same] at hk; exact oac k hk
    · have hk : (upd M.tg t g' τ).av.ownBlock = _ := hk
      rw [upd_ne _ _ _ _ e] at hk
      exact (hx.keep k ((h.tgt τ hτ).acted.lt k hk)).trans (h.oac τ hτ k hk)
/-- A transaction that the round at t leaves alone. -/
theorem txOf_col {N : Int} {A : Nat} {c : SS × RepD} (hX : XInv N A c.1) {t : Nat} (ht : t < 7) {m : Nat} (hm : m < 3) {q : Int} (h1 : (c.1.x.mp m).rt ≤ q) (h2 : q < (c.1.x.mp m).iss)
    (hne : ¬ (flying c.1.x t ∧ m = mo c.1.x t ∧ q = (c.1.x.tp t).sq)) : txOf (collectT t c).1.x m q = txOf c.1.x m q := by
  obtain ⟨b1, b2, b3, b4, b5, b6⟩ := collectT_else t c
  have hs : slq (collectT t c).1.x m q = slq c.1.x m q := by
    unfold slq
    refine b2 m _ ?_
    rintro ⟨q1, q2, q3⟩
    refine hne ⟨q1, q2.symm, ?_⟩
    obtain ⟨f1, f2, _⟩ := hX.fly t ht q1
    rw [q2] at f1 f2
    obtain ⟨c1, c2, c3, c4, c5⟩ := hX.cnt m hm
    exact (window c1 f1 (by omega) h1 (by omega) q3).symm
  unfold txOf
  rw [hs, (b3 m).2.1]
theorem MR.col {N : Int} {A : Nat} {c : SS × RepD} (hX : XInv N A c.1) {own own' : Nat → Nat} {w w' : World} {mb : Nat} {M : MA} {tb : Nat → Int → Nat} {t : Nat} (ht : t < 7) {g' : TG} (h : MR own w mb M tb c.1)
    (hx : Ext own own' (SR t) w w')
    (hb0 : ∀ b, b < w.heap.size → own b = 34 → ¬ (flying c.1.x t ∧ b = tb (mo c.1.x t) (c.1.x.tp t).sq) → w'.heap[b]? = w.heap[b]?)
    (hblk : Blk w' mb (encM { M with tg := upd M.tg t g' }) 104)
    (htx : flying c.1.x t → Blk w' (tb (mo c.1.x t) (c.1.x.tp t).sq) (encT (txOf (collectT t c).1.x (mo c.1.x t) (c.1.x.tp t).sq)) 148)
    (hg : TGOK w' tb (collectT t c).1 t g')
    (owm : own' g'.wm = 60 + t) (opl : ∀ k, g'.pv.ownBlock = some k → own' k = 70 + t) (oac : ∀ k, g'.av.ownBlock = some k → own' k = 80 + t)
    (ogn : ((collectT t c).1.x.tp t).busy = true → ((collectT t c).1.x.tp t).orph = true → ∀ b, g'.sv = .pointer (some ⟨b, 0, none⟩) → own' b = 34) :
    MR own' w' mb { M with tg := upd M.tg t g' } tb (collectT t c).1 := by
  obtain ⟨b1, b2, b3, b4, b5, b6⟩ := collectT_else t c
  have hmo : mo c.1.x t < 3 := by have := hX.tm t ht; unfold mo; omega
  refine h.round ht (fun b => flying c.1.x t ∧ b = tb (mo c.1.x t) (c.1.x.tp t).sq) hx hb0 ?_ hblk (fun m _ => ⟨(b3 m).1, (b3 m).2.2.1, (b3 m).2.2.2.1, (b3 m).2.2.2.2⟩) (fun τ _ e => ⟨(b1 τ e).1, (b1 τ e).2.1⟩) ?_ hg owm opl oac ogn
  · rintro τ hτ hne h1 h2 b hb ⟨hf, rfl⟩
    obtain ⟨b', y, z1, z2, z3, z4⟩ := (h.tgt τ hτ).gone h1 h2
    have : b' = tb (mo c.1.x t) (c.1.x.tp t).sq := by rw [z1] at hb; injection hb with hb; injection hb with hb; injection hb
    obtain ⟨f1, f2, _⟩ := hX.fly t ht hf
    have := (hX.cnt _ hmo)
    exact z4 _ _ hmo f1 (by omega) ‹_›
  · intro m hm q h1 h2
    by_cases e : flying c.1.x t ∧ m = mo c.1.x t ∧ q = (c.1.x.tp t).sq
    · obtain ⟨e1, rfl, rfl⟩ := e
      exact htx e1
    · rw [txOf_col hX ht hm h1 h2 e]
      refine (hb0 _ (h.tx m hm q h1 h2).lt (h.otx m hm q h1 h2) ?_).trans (h.tx m hm q h1 h2)
      rintro ⟨hf, hb⟩
      obtain ⟨f1, f2, _⟩ := hX.fly t ht hf
      have := (hX.cnt _ hmo)
      obtain ⟨e1, e2⟩ := h.inj m q _ _ hm hmo h1 h2 f1 (by omega) hb
      exact e ⟨hf, e1, e2⟩
theorem tkL_keep (t : Nat) (q : PS) : (tkL t q).mem = q.mem ∧ (tkL t q).plans = q.plans ∧ (tkL t q).atts = q.atts ∧ (tkL t q).due = q.due ∧ (tkL t q).rst = q.rst ∧ (tkL t q).rda = q.rda := by
  unfold tkL tickP
  split
  · split <;> exact ⟨rfl, rfl, rfl, rfl, rfl, rfl⟩
  · exact ⟨rfl, rfl, rfl, rfl, rfl, rfl⟩
theorem acts_congr {q q' : PS} (h : q.atts = q'.atts) : acts q = acts q' := by unfold acts; rw [h]
/-- A target that comes free. -/
theorem TGOK.freed {w w' : World} {tb : Nat → Int → Nat} {σ σ' : SS} {t : Nat} {g g' : TG} (k : TGOK w tb σ t g) (hb : (σ'.x.tp t).busy = false) (hp : σ'.p t = tkL t (σ.p t)) (htu : (σ'.x.tp t).turn = (σ.x.tp t).turn) (his : (σ'.x.tp t).iso = (σ.x.tp t).iso)
    (hsv : g'.sv = .pointer none) (e1 : g'.wm = g.wm) (e2 : g'.pv = g.pv) (e3 : g'.av = g.av) (e4 : g'.tu = g.tu) (e5 : g'.is = g.is)
    (s1 : w'.heap[g.wm]? = w.heap[g.wm]?) (s2 : ∀ b, g.pv.ownBlock = some b → w'.heap[b]? = w.heap[b]?) (s3 : ∀ b, g.av.ownBlock = some b → w'.heap[b]? = w.heap[b]?) : TGOK w' tb σ' t g' := by
  obtain ⟨k1, k2, k3, _⟩ := tkL_keep t (σ.p t)
  refine ⟨?_, ?_, ?_, fun _ => hsv, fun hf => absurd hf.1 (by rw [hb]; exact Bool.false_ne_true), fun h => absurd h (by rw [hb]; exact Bool.false_ne_true), fun h => absurd h (by rw [hb]; exact Bool.false_ne_true), by rw [e4, htu]; exact k.turn, by rw [e5, his]; exact k.iso⟩
  · rw [hp, k1, e1]; exact k.words.same s1
  · rw [hp, k2, e2]; exact k.plans.same s2
  · rw [hp, acts_congr k3, e3]; exact k.acted.same s3
/-- Nothing serves: the round leaves all alone. -/
theorem MR.colIdle {c : SS × RepD} {own : Nat → Nat} {w : World} {mb : Nat} {M : MA} {tb : Nat → Int → Nat} {t : Nat} (h : MR own w mb M tb c.1) (hb : (c.1.x.tp t).busy = false) : MR own w mb M tb (collectT t c).1 ∧ collectT t c = c := by
  have e : collectT t c = c := by unfold collectT; rw [if_pos hb]
  rw [e]; exact ⟨h, rfl⟩
/-- A cycle passes. -/
theorem MR.colWait {N : Int} {A : Nat} {c : SS × RepD} (hX : XInv N A c.1) {own : Nat → Nat} {w : World} {mb : Nat} {M : MA} {tb : Nat → Int → Nat} {t : Nat} (ht : t < 6) (h : MR own w mb M tb c.1) (hb : (c.1.x.tp t).busy = true) (he : tickEnds (c.1.p t) = false) :
    MR own (put w mb (encM { M with tg := upd M.tg t { M.tg t with lf := (M.tg t).lf - 1 } }) 104) mb { M with tg := upd M.tg t { M.tg t with lf := (M.tg t).lf - 1 } } tb (collectT t c).1 ∧ (collectT t c).2 = c.2 := by
  have e : collectT t c = (ticked c.1 t, c.2) := by unfold collectT; rw [if_neg (by rw [hb]; exact Bool.noConfusion), if_pos ⟨ht, he⟩]
  have ht7 : t < 7 := by omega
  have k := h.tgt t ht7
  have ep : (ticked c.1 t).p t = tkL t (c.1.p t) := tk_p _ _
  have ex : (ticked c.1 t).x = c.1.x := ticked_x _ _
  obtain ⟨k1, k2, k3, k4, k5, k6⟩ := tkL_keep t (c.1.p t)
  have hsame : ∀ b, b ≠ mb → (put w mb (encM { M with tg := upd M.tg t { M.tg t with lf := (M.tg t).lf - 1 } }) 104).heap[b]? = w.heap[b]? := fun b hb => put_heap_ne _ _ _ _ _ hb
  have hne : ∀ b, own b ≠ 30 → b ≠ mb := fun b hb e => hb (by rw [e]; exact h.omb)
  have howm := h.owm t ht7
  refine ⟨h.col hX ht7 (own' := own) (Ext.put (.inl h.omb)) (fun b hb h34 _ => hsame b (hne b (by omega))) (Blk.put_same h.blk.lt) (fun hf => ?_) ?_ howm (h.opl t ht7) (h.oac t ht7) ?_, by rw [e]⟩
  · have hm3 : mo c.1.x t < 3 := by have := hX.tm t ht7; unfold mo; omega
    obtain ⟨f1, f2, _⟩ := hX.fly t ht7 hf
    have hc := hX.cnt _ hm3
    have hB := h.tx (mo c.1.x t) hm3 (c.1.x.tp t).sq f1 (by omega)
    have ho := h.otx (mo c.1.x t) hm3 (c.1.x.tp t).sq f1 (by omega)
    rw [e]
    show Blk _ _ (encT (txOf (ticked c.1 t).x _ _)) _
    rw [ex]
    exact hB.put_ne (hne _ (by omega))
  · rw [e]
    show TGOK _ tb (ticked c.1 t) t _
    refine ⟨?_, ?_, ?_, by rw [ex]; exact fun h0 => (by rw [hb] at h0; cases h0), by rw [ex]; exact k.live, ?_, ?_, by rw [ex]; exact k.turn, by rw [ex]; exact k.iso⟩
    · rw [ep, k1]; exact k.words.same (hsame _ (hne _ (by omega)))
    · rw [ep, k2]; exact k.plans.same fun b hb => hsame b (hne b (by rw [h.opl t ht7 b hb]; omega))
    · rw [ep, acts_congr k3]; exact k.acted.same fun b hb => hsame b (hne b (by rw [h.oac t ht7 b hb]; omega))
    · rw [ex]; intro h1 h2
      obtain ⟨b, y, z1, z2, z3, z4⟩ := k.gone h1 h2
      exact ⟨b, y, z1, z2.put_ne (hne b (by rw [h.ogn t ht7 h1 h2 b z1]; omega)), z3, z4⟩
    · intro _
      obtain ⟨l1, l2, l3⟩ := k.left hb
      rw [if_pos ht] at l1 l2 l3
      rw [if_pos ht, if_pos ht, if_pos ht, ep, k4, k5, k6]
      refine ⟨?_, l2, l3⟩
      have hwt : (tkL t (c.1.p t)).wt = (c.1.p t).wt + 1 := by
        have hpb : (c.1.p t).busy = true := (hX.busy t ht).symm.trans hb
        obtain ⟨w0, w1, _⟩ := (hX.port t ht).pend hpb
        unfold tkL tickP
        rw [if_pos ht, if_pos hpb]
        show tickW (c.1.p t) = _
        unfold tickW; omega
      rw [hwt]
      show (M.tg t).lf - 1 = _
      omega
  · rw [e]
    show ((ticked c.1 t).x.tp t).busy = true → _
    rw [ex]
    exact fun h1 h2 b hb => h.ogn t ht7 h1 h2 b hb
/-- The end of a sending that nobody waits for. -/
theorem MR.colGone {N : Int} {A : Nat} {c : SS × RepD} (hX : XInv N A c.1) {own : Nat → Nat} {w : World} {mb : Nat} {M : MA} {tb : Nat → Int → Nat} {t : Nat} (ht : t < 7) (h : MR own w mb M tb c.1) (hb : (c.1.x.tp t).busy = true) (he : t < 6 → tickEnds (c.1.p t) = true) (ho : (c.1.x.tp t).orph = true) (l : Int) :
    MR own (put w mb (encM { M with tg := upd M.tg t { M.tg t with lf := l, sv := .pointer none } }) 104) mb { M with tg := upd M.tg t { M.tg t with lf := l, sv := .pointer none } } tb (collectT t c).1 ∧ (collectT t c).2 = c.2 := by
  have e : collectT t c = ({ ticked c.1 t with x := c.1.x.setT t { c.1.x.tp t with busy := false, orph := false } }, c.2) := by
    unfold collectT; rw [if_neg (by rw [hb]; exact Bool.noConfusion), if_neg (fun hh => by rw [he hh.1] at hh; cases hh.2), if_pos ho]
  have k := h.tgt t ht
  have hsame : ∀ b, b ≠ mb → (put w mb (encM { M with tg := upd M.tg t { M.tg t with lf := l, sv := .pointer none } }) 104).heap[b]? = w.heap[b]? := fun b hb => put_heap_ne _ _ _ _ _ hb
  have hne : ∀ b, own b ≠ 30 → b ≠ mb := fun b hb e => hb (by rw [e]; exact h.omb)
  have howm := h.owm t ht
  have hb' : ((collectT t c).1.x.tp t).busy = false := by rw [e]; show ((c.1.x.setT t _).tp t).busy = false; rw [setT_tp]
  refine ⟨h.col hX ht (own' := own) (Ext.put (.inl h.omb)) (fun b hb h34 _ => hsame b (hne b (by omega))) (Blk.put_same h.blk.lt) (fun hf => by rw [hf.2] at ho; cases ho) ?_ howm (h.opl t ht) (h.oac t ht) (fun h1 => by rw [hb'] at h1; cases h1), by rw [e]⟩
  refine k.freed hb' (by rw [e]; exact tk_p _ _) (by rw [e]; show ((c.1.x.setT t _).tp t).turn = _; rw [setT_tp]) (by rw [e]; show ((c.1.x.setT t _).tp t).iso = _; rw [setT_tp]) rfl rfl rfl rfl rfl rfl (hsame _ (hne _ (by omega))) (fun b hb => hsame b (hne b (by rw [h.opl t ht b hb]; omega))) (fun b hb => hsame b (hne b (by rw [h.oac t ht b hb]; omega)))
end Go.Proofs.Qxb6500750aDoor
