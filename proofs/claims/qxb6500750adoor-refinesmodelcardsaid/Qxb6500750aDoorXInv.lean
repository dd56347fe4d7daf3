import Derived.Test.Qxb6500750aDoorInv
namespace Go.Proofs.Qxb6500750aDoor
open Go.RowKit
/-! ### The crossbar's invariant -/
def flying (x : XS) (t : Nat) : Prop := (x.tp t).busy = true ∧ (x.tp t).orph = false
def mo (x : XS) (t : Nat) : Nat := (x.tp t).m.toNat
def slq (x : XS) (m : Nat) (q : Int) : Slot := (x.mp m).sl (q % 4).toNat
structure XInv (N : Int) (A : Nat) (σ : SS) : Prop where
  tm : ∀ t, t < 7 → 0 ≤ (σ.x.tp t).m ∧ (σ.x.tp t).m < 3
  tsq : ∀ t, t < 7 → 0 ≤ (σ.x.tp t).sq
  turn : ∀ t, t < 7 → 0 ≤ (σ.x.tp t).turn ∧ (σ.x.tp t).turn < 3
  sg : ∀ t, t < 7 → 0 ≤ σ.x.sg t ∧ σ.x.sg t < 4294967296
  sr : ∀ t, t < 7 → 0 ≤ σ.x.sr t ∧ σ.x.sr t < 4294967296
  sp : ∀ t, t < 7 → 0 ≤ σ.x.sp t ∧ σ.x.sp t < 4294967296
  re : ∀ m s, m < 3 → s < 4 → 0 ≤ ((σ.x.mp m).sl s).ret.re
  ad : ∀ m s, m < 3 → s < 4 → 0 ≤ ((σ.x.mp m).sl s).req.ad ∧ ((σ.x.mp m).sl s).req.ad < 4294967296
  cnt : ∀ m, m < 3 → 0 ≤ (σ.x.mp m).rt ∧ (σ.x.mp m).rt ≤ (σ.x.mp m).gr ∧ (σ.x.mp m).gr ≤ (σ.x.mp m).iss ∧ (σ.x.mp m).iss ≤ (σ.x.mp m).rt + 4 ∧ (σ.x.mp m).iss ≤ N
  wait : ∀ m q, m < 3 → (σ.x.mp m).gr ≤ q → q < (σ.x.mp m).iss → (slq σ.x m q).ph = 0
  fly : ∀ t, t < 7 → flying σ.x t → (σ.x.mp (mo σ.x t)).rt ≤ (σ.x.tp t).sq ∧ (σ.x.tp t).sq < (σ.x.mp (mo σ.x t)).gr ∧ (slotOf σ.x t).ph = 1
  dist : ∀ t t', t < 7 → t' < 7 → flying σ.x t → flying σ.x t' → t ≠ t' → ¬ (mo σ.x t = mo σ.x t' ∧ (σ.x.tp t).sq = (σ.x.tp t').sq)
  orp : ∀ t, t < 7 → (σ.x.tp t).orph = true → (σ.x.tp t).busy = true
  busy : ∀ t, t < 6 → (σ.x.tp t).busy = (σ.p t).busy
  port : ∀ t, t < 6 → PInv A (σ.p t)
theorem XInv.colOK {N : Int} {A : Nat} {σ : SS} (h : XInv N A σ) (hA : A < 1000000000) {t : Nat} (ht : t < 7) : ColOK t σ where
  m := h.tm t ht
  sq := h.tsq t ht
  re := h.re _ _ (by have := h.tm t ht; omega) (by omega)
  sr := h.sr t ht
  sp := h.sp t ht
  pl := fun h6 => (h.port t h6).pl
  n := fun h6 => (h.port t h6).n
  a := fun h6 => Nat.lt_of_le_of_lt (h.port t h6).a hA
section
variable (x : XS)
theorem setS_get (m s m' s' : Nat) (a : Slot) : ((x.setS m s a).mp m').sl s' = if m' = m ∧ s' = s then a else (x.mp m').sl s' := by
  simp only [XS.setS, XS.setM, upd]
  by_cases e : m' = m
  · subst e
    by_cases e2 : s' = s
    · subst e2; simp [upd]
    · simp [e2, upd]
  · simp [e]
theorem setS_iss (m s m' : Nat) (a : Slot) : ((x.setS m s a).mp m').iss = (x.mp m').iss := by simp only [XS.setS, XS.setM, upd]; split <;> simp_all
theorem setS_gr (m s m' : Nat) (a : Slot) : ((x.setS m s a).mp m').gr = (x.mp m').gr := by simp only [XS.setS, XS.setM, upd]; split <;> simp_all
theorem setS_rt (m s m' : Nat) (a : Slot) : ((x.setS m s a).mp m').rt = (x.mp m').rt := by simp only [XS.setS, XS.setM, upd]; split <;> simp_all
theorem setT_get (t t' : Nat) (a : TP) : (x.setT t a).tp t' = if t' = t then a else x.tp t' := rfl
end
/-- Two places in one window of four. -/
theorem window {a b r : Int} (_ : 0 ≤ r) (h1 : r ≤ a) (h2 : a < r + 4) (h3 : r ≤ b) (h4 : b < r + 4) (h : (a % 4).toNat = (b % 4).toNat) : a = b := by omega
/-- One slot turned, its request and its phase but for the one transaction at t kept, and its target's row. -/
theorem XInv.slot {N : Int} {A : Nat} {σ : SS} (h : XInv N A σ) {t : Nat} (ht : t < 7) (hf : flying σ.x t) (a : Slot) (ha : a.req = (slotOf σ.x t).req) (hre : 0 ≤ a.ret.re) (b : Bool)
    (p : Nat → PS) (hp : ∀ s, s < 6 → s ≠ t → p s = σ.p s) (hpt : t < 6 → b = (p t).busy) (B : Nat) (hB : A ≤ B) (hpp : t < 6 → PInv B (p t)) (hb2 : b = true → a.ph = 1) :
    XInv N B ⟨(setSlot σ.x t a).setT t { σ.x.tp t with busy := b }, p⟩ := by
  obtain ⟨f1, f2, f3⟩ := h.fly t ht hf
  have hmt := h.tm t ht
  have hm : mo σ.x t < 3 := by unfold mo; omega
  obtain ⟨c1, c2, c3, c4, c5⟩ := h.cnt _ hm
  have hs4 : ((σ.x.tp t).sq % 4).toNat < 4 := by omega
  have hkeep : ∀ t', t' < 7 → flying σ.x t' → t' ≠ t → ¬ (mo σ.x t' = mo σ.x t ∧ ((σ.x.tp t').sq % 4).toNat = ((σ.x.tp t).sq % 4).toNat) := by
    rintro t' ht' hf' hne ⟨e1, e2⟩
    obtain ⟨g1, g2, _⟩ := h.fly t' ht' hf'
    rw [e1] at g1 g2
    exact h.dist t' t ht' ht hf' hf hne ⟨e1, window c1 g1 (by omega) f1 (by omega) e2⟩
  refine ⟨?_, ?_, ?_, h.sg, h.sr, h.sp, ?_, ?_, ?_, ?_, ?_, ?_, ?_, ?_, ?_⟩
  · intro t' ht'; simp only [setT_get]; split
    · exact hmt
    · exact h.tm t' ht'
  · intro t' ht'; simp only [setT_get]; split
    · exact h.tsq t ht
    · exact h.tsq t' ht'
  · intro t' ht'; simp only [setT_get]; split
    · exact h.turn t ht
    · exact h.turn t' ht'
  · intro m s hm' hs'
    simp only [setT_mp, setSlot, setS_get]; split
    · exact hre
    · exact h.re m s hm' hs'
  · intro m s hm' hs'
    simp only [setT_mp, setSlot, setS_get]; split
    · rw [ha]; exact h.ad _ _ hm hs4
    · exact h.ad m s hm' hs'
  · intro m hm'
    simp only [setT_mp, setSlot, setS_rt, setS_gr, setS_iss]
    exact h.cnt m hm'
  · intro m q hm' hq1 hq2
    simp only [setT_mp, setSlot, setS_gr, setS_iss] at hq1 hq2
    simp only [slq, setT_mp, setSlot, setS_get]
    split
    · rename_i e
      obtain ⟨e1, e2⟩ := e
      change m = mo σ.x t at e1
      subst e1
      have := window c1 (by omega) (by omega) f1 (by omega) e2
      omega
    · exact h.wait m q hm' hq1 hq2
  · intro t' ht' hf'
    by_cases e : t' = t
    · subst e
      unfold flying at hf'
      simp only [setT_tp] at hf'
      have hb1 : a.ph = 1 := hb2 hf'.1
      simp only [mo, setT_tp, setT_mp, setSlot, setS_rt, setS_gr, slotOf, setS_sl]
      exact ⟨f1, f2, hb1⟩
    · have hf0 : flying σ.x t' := by
        unfold flying at hf' ⊢
        simp only [setT_get, if_neg e] at hf'
        exact hf'
      have hk := hkeep t' ht' hf0 e
      obtain ⟨g1, g2, g3⟩ := h.fly t' ht' hf0
      simp only [mo, setT_get, if_neg e, setT_mp, setSlot, setS_tp, setS_rt, setS_gr, slotOf, setS_get]
      refine ⟨g1, g2, ?_⟩
      unfold mo at hk; rw [if_neg hk]; exact g3
  · intro t1 t2 h1 h2 f1' f2' hne
    have back : ∀ t', flying ((setSlot σ.x t a).setT t { σ.x.tp t with busy := b }) t' → flying σ.x t' := by
      intro t' hf'
      by_cases e : t' = t
      · subst e; exact hf
      · unfold flying at hf' ⊢
        simp only [setT_get, if_neg e] at hf'
        exact hf'
    have row : ∀ t', mo ((setSlot σ.x t a).setT t { σ.x.tp t with busy := b }) t' = mo σ.x t' ∧ (((setSlot σ.x t a).setT t { σ.x.tp t with busy := b }).tp t').sq = (σ.x.tp t').sq := by
      intro t'
      simp only [mo, setT_get, setSlot, setS_tp]
      by_cases e : t' = t
      · subst e; simp
      · simp [e]
    have := h.dist t1 t2 h1 h2 (back t1 f1') (back t2 f2') hne
    rw [(row t1).1, (row t1).2, (row t2).1, (row t2).2]
    exact this
  · intro t' ht'
    simp only [setT_get]
    by_cases e : t' = t
    · subst e; simp only [if_true]; intro ho; rw [hf.2] at ho; cases ho
    · simp only [if_neg e]; exact h.orp t' ht'
  · intro t' ht'
    simp only [setT_get]
    by_cases e : t' = t
    · subst e; simp only [if_true]; exact hpt ht'
    · simp only [if_neg e]; rw [hp t' ht' e]; exact h.busy t' ht'
  · intro t' ht'
    by_cases e : t' = t
    · subst e; exact hpp ht'
    · show PInv B (p t'); rw [hp t' ht' e]; exact (h.port t' ht').mono hB
/-- A target's row turned where nothing flies. -/
theorem XInv.row {N : Int} {A : Nat} {σ : SS} (h : XInv N A σ) {t : Nat} (ht : t < 7) (b o : Bool) (hbo : ¬ (b = true ∧ o = false)) (hob : o = true → b = true)
    (p : Nat → PS) (hp : ∀ s, s < 6 → s ≠ t → p s = σ.p s) (hpt : t < 6 → b = (p t).busy) (hpp : t < 6 → PInv A (p t)) :
    XInv N A ⟨σ.x.setT t { σ.x.tp t with busy := b, orph := o }, p⟩ := by
  have back : ∀ t', flying (σ.x.setT t { σ.x.tp t with busy := b, orph := o }) t' → flying σ.x t' ∧ t' ≠ t := by
    intro t' hf'
    by_cases e : t' = t
    · subst e; unfold flying at hf'; simp only [setT_tp] at hf'; exact absurd hf' hbo
    · refine ⟨?_, e⟩
      unfold flying at hf' ⊢
      simp only [setT_get, if_neg e] at hf'
      exact hf'
  refine ⟨?_, ?_, ?_, h.sg, h.sr, h.sp, h.re, h.ad, h.cnt, h.wait, ?_, ?_, ?_, ?_, ?_⟩
  · intro t' ht'; simp only [setT_get]; split
    · exact h.tm t ht
    · exact h.tm t' ht'
  · intro t' ht'; simp only [setT_get]; split
    · exact h.tsq t ht
    · exact h.tsq t' ht'
  · intro t' ht'; simp only [setT_get]; split
    · exact h.turn t ht
    · exact h.turn t' ht'
  · intro t' ht' hf'
    obtain ⟨hf, e⟩ := back t' hf'
    have := h.fly t' ht' hf
    simp only [mo, slotOf, setT_get, if_neg e, setT_mp]
    exact this
  · intro t1 t2 h1 h2 f1 f2 hne
    obtain ⟨g1, e1⟩ := back t1 f1
    obtain ⟨g2, e2⟩ := back t2 f2
    have := h.dist t1 t2 h1 h2 g1 g2 hne
    simp only [mo, setT_get, if_neg e1, if_neg e2]
    exact this
  · intro t' ht'
    simp only [setT_get]
    by_cases e : t' = t
    · subst e; simp only [if_true]; exact hob
    · simp only [if_neg e]; exact h.orp t' ht'
  · intro t' ht'
    simp only [setT_get]
    by_cases e : t' = t
    · subst e; simp only [if_true]; exact hpt ht'
    · simp only [if_neg e]; rw [hp t' ht' e]; exact h.busy t' ht'
  · intro t' ht'
    by_cases e : t' = t
    · subst e; exact hpp ht'
    · show PInv A (p t'); rw [hp t' ht' e]; exact h.port t' ht'
theorem XInv.mono {N : Int} {A B : Nat} {σ : SS} (h : XInv N A σ) (hB : A ≤ B) : XInv N B σ := { h with port := fun t ht => (h.port t ht).mono hB }
/-- A port turned under its busy target. -/
theorem XInv.ports {N : Int} {A : Nat} {σ : SS} (h : XInv N A σ) {t : Nat} (p : Nat → PS) (hp : ∀ s, s < 6 → s ≠ t → p s = σ.p s) (hpt : t < 6 → (p t).busy = (σ.p t).busy) (hpp : t < 6 → PInv A (p t)) : XInv N A ⟨σ.x, p⟩ :=
  { h with
    busy := fun s hs => by
      by_cases e : s = t
      · subst e; exact (h.busy s hs).trans (hpt hs).symm
      · exact (h.busy s hs).trans (by show (σ.p s).busy = (p s).busy; rw [hp s hs e])
    port := fun s hs => by
      by_cases e : s = t
      · subst e; exact hpp hs
      · show PInv A (p s); rw [hp s hs e]; exact h.port s hs }
theorem sat_range {c : Int} (h : 0 ≤ c ∧ c < 4294967296) : 0 ≤ sat c ∧ sat c < 4294967296 := by
  unfold sat
  split
  · exact h
  · rename_i hh; simp at hh; omega
theorem XInv.stats {N : Int} {A : Nat} {σ : SS} (h : XInv N A σ) (g r p : Nat → Int) (hg : ∀ t, t < 7 → 0 ≤ g t ∧ g t < 4294967296) (hr : ∀ t, t < 7 → 0 ≤ r t ∧ r t < 4294967296) (hp : ∀ t, t < 7 → 0 ≤ p t ∧ p t < 4294967296) :
    XInv N A ⟨{ σ.x with sg := g, sr := r, sp := p }, σ.p⟩ := ⟨h.tm, h.tsq, h.turn, hg, hr, hp, h.re, h.ad, h.cnt, h.wait, h.fly, h.dist, h.orp, h.busy, h.port⟩
theorem upd_range {f : Nat → Int} {t : Nat} {v : Int} (h : ∀ t, t < 7 → 0 ≤ f t ∧ f t < 4294967296) (hv : 0 ≤ v ∧ v < 4294967296) : ∀ s, s < 7 → 0 ≤ upd f t v s ∧ upd f t v s < 4294967296 := by
  intro s hs
  unfold upd
  split
  · exact hv
  · exact h s hs
theorem ticked_p (σ : SS) (t s : Nat) : (ticked σ t).p s = if s = t ∧ t < 6 then tickP (σ.p t) else σ.p s := by
  unfold ticked
  by_cases h6 : t < 6
  · rw [if_pos h6]
    by_cases e : s = t
    · subst e; simp [upd, h6]
    · simp [upd, e]
  · rw [if_neg h6, if_neg (by omega)]
theorem tickP_busy (q : PS) (hb : q.busy = true) : (tickP q).busy = !tickEnds q := by
  unfold tickP tickEnds; rw [hb]; simp
theorem sent_p (σ : SS) (t s : Nat) : (sent σ t).p s = if s = t ∧ t < 6 then sendP (σ.p t) (mkReq σ.x t) else σ.p s := by
  unfold sent
  by_cases h6 : t < 6
  · rw [if_pos h6]
    by_cases e : s = t
    · subst e; simp [upd, h6]
    · simp [upd, e]
  · rw [if_neg h6, if_neg (by omega)]
theorem setT_self (x : XS) (t : Nat) (a : TP) (h : x.tp t = a) : x.setT t a = x := by
  subst h
  unfold XS.setT
  congr 1
  exact upd_id _ _
theorem XInv.collectT {N : Int} {A : Nat} {c : SS × RepD} (h : XInv N A c.1) {t : Nat} (ht : t < 7) : XInv N (A + 1) (collectT t c).1 := by
  have ht6p : ∀ s, s < 6 → s ≠ t → (ticked c.1 t).p s = c.1.p s := fun s _ e => by rw [ticked_p, if_neg (fun h => e h.1)]
  have htick : t < 6 → PInv A ((ticked c.1 t).p t) := fun h6 => by rw [ticked_p, if_pos ⟨rfl, h6⟩]; exact (h.port t h6).tick
  unfold Qxb6500750aDoor.collectT
  by_cases hb : (c.1.x.tp t).busy = false
  · rw [if_pos hb]; exact h.mono (Nat.le_succ _)
  rw [if_neg hb]
  have hb' : (c.1.x.tp t).busy = true := by simpa using hb
  have hpb : t < 6 → (c.1.p t).busy = true := fun h6 => (h.busy t h6).symm.trans hb'
  have hbz : t < 6 → ((ticked c.1 t).p t).busy = !tickEnds (c.1.p t) := fun h6 => by rw [ticked_p, if_pos ⟨rfl, h6⟩]; exact tickP_busy _ (hpb h6)
  by_cases hw : t < 6 ∧ tickEnds (c.1.p t) = false
  · rw [if_pos hw]
    have := h.ports (t := t) (ticked c.1 t).p ht6p (fun h6 => by rw [hbz h6, hw.2, hpb h6]; rfl) htick
    have e : (ticked c.1 t) = ⟨c.1.x, (ticked c.1 t).p⟩ := by rw [← ticked_x c.1 t]
    show XInv N (A + 1) (ticked c.1 t)
    rw [e]; exact this.mono (Nat.le_succ _)
  rw [if_neg hw]
  have hend : t < 6 → tickEnds (c.1.p t) = true := fun h6 => by
    cases he : tickEnds (c.1.p t)
    · exact absurd ⟨h6, he⟩ hw
    · rfl
  have hidle : t < 6 → ((ticked c.1 t).p t).busy = false := fun h6 => by rw [hbz h6, hend h6]; rfl
  by_cases ho : (c.1.x.tp t).orph = true
  · rw [if_pos ho]
    exact (h.row ht false false (by simp) (fun h => h) (ticked c.1 t).p ht6p (fun h6 => (hidle h6).symm) htick).mono (Nat.le_succ _)
  rw [if_neg ho]
  have hf : flying c.1.x t := ⟨hb', by simpa using ho⟩
  have hre := h.re (mo c.1.x t) ((c.1.x.tp t).sq % 4).toNat (by have := h.tm t ht; unfold mo; omega) (by omega)
  by_cases ha : again c.1.x t (pC t (c.1.p t)) = true
  · rw [if_pos ha]
    obtain ⟨_, _, hph⟩ := h.fly t ht hf
    have hsp : ∀ s, (sent { ticked c.1 t with x := retried c.1.x t } t).p s = if s = t ∧ t < 6 then sendP ((ticked c.1 t).p t) (mkReq (retried c.1.x t) t) else (ticked c.1 t).p s := fun s => sent_p _ t s
    have h1 := h.slot ht hf { slotOf c.1.x t with ret := { (slotOf c.1.x t).ret with re := (slotOf c.1.x t).ret.re + 1 } } rfl (by show 0 ≤ (slotOf c.1.x t).ret.re + 1; have : 0 ≤ (slotOf c.1.x t).ret.re := hre; omega) true
      (sent { ticked c.1 t with x := retried c.1.x t } t).p (fun s hs e => by rw [hsp, if_neg (fun h => e h.1)]; exact ht6p s hs e)
      (fun h6 => by rw [hsp, if_pos ⟨rfl, h6⟩]; rfl) (A + 1) (Nat.le_succ _) (fun h6 => by rw [hsp, if_pos ⟨rfl, h6⟩]; exact (htick h6).send _) (fun _ => hph)
    rw [setT_self _ _ _ (by rw [setSlot, setS_tp]; rw [← hb'])] at h1
    exact h1.stats _ _ _ h1.sg (upd_range h.sr (sat_range (h.sr t ht))) h1.sp
  · rw [if_neg ha]
    have hre' : 0 ≤ (slotOf c.1.x t).ret.re := hre
    have h1 := h.slot ht hf (landS (slotOf c.1.x t) (pS t (c.1.p t)) (pD t (c.1.p t)) (pC t (c.1.p t))) rfl hre' false (ticked c.1 t).p ht6p (fun h6 => (hidle h6).symm) A (Nat.le_refl _) htick (fun h => by cases h)
    have h2 := (h1.mono (Nat.le_succ A))
    by_cases h3 : pS t (c.1.p t) = 3
    · simp only [if_pos h3]
      exact h2.stats _ _ _ h2.sg h2.sr (upd_range h.sp (sat_range (h.sp t ht)))
    · simp only [if_neg h3]
      exact h2
theorem XInv.collectN {N : Int} {A : Nat} {σ : SS} (h : XInv N A σ) (ρ : RepD) : ∀ k, k ≤ 7 → XInv N (A + k) (collectN k (σ, ρ)).1
  | 0, _ => h
  | k + 1, hk => (XInv.collectN h ρ k (by omega)).collectT (by omega)
/-! ### A grant -/
theorem setM_get (x : XS) (m m' : Nat) (a : MP) : (x.setM m a).mp m' = if m' = m then a else x.mp m' := rfl
theorem XInv.grant {N : Int} {A : Nat} {σ : SS} (h : XInv N A σ) {t m : Nat} (ht : t < 7) (hm : m < 3) (hb : (σ.x.tp t).busy = false) (hg : (σ.x.mp m).gr < (σ.x.mp m).iss)
    (p : Nat → PS) (hp : ∀ s, s < 6 → s ≠ t → p s = σ.p s) (hpt : t < 6 → (p t).busy = true) (B : Nat) (hB : A ≤ B) (hpp : t < 6 → PInv B (p t)) :
    XInv N B ⟨grantX σ.x t m, p⟩ := by
  obtain ⟨c1, c2, c3, c4, c5⟩ := h.cnt m hm
  have ho : (σ.x.tp t).orph = false := by
    cases ho : (σ.x.tp t).orph
    · rfl
    · have := h.orp t ht ho; rw [hb] at this; cases this
  have htp : ∀ t', (grantX σ.x t m).tp t' = if t' = t then { σ.x.tp t with busy := true, m := (m : Nat), sq := (σ.x.mp m).gr, turn := ((m : Int) + 1) % 3 } else σ.x.tp t' := fun t' => rfl
  have hmp : ∀ m', (grantX σ.x t m).mp m' = if m' = m then { σ.x.mp m with sl := upd (σ.x.mp m).sl ((σ.x.mp m).gr % 4).toNat { (σ.x.mp m).sl ((σ.x.mp m).gr % 4).toNat with ph := 1 }, gr := (σ.x.mp m).gr + 1 } else σ.x.mp m' := fun m' => rfl
  have hrt : ∀ m', ((grantX σ.x t m).mp m').rt = (σ.x.mp m').rt := fun m' => by rw [hmp]; split <;> simp_all
  have his : ∀ m', ((grantX σ.x t m).mp m').iss = (σ.x.mp m').iss := fun m' => by rw [hmp]; split <;> simp_all
  have hgr : ∀ m', ((grantX σ.x t m).mp m').gr = if m' = m then (σ.x.mp m).gr + 1 else (σ.x.mp m').gr := fun m' => by rw [hmp]; split <;> simp_all
  have hsl : ∀ m' s', ((grantX σ.x t m).mp m').sl s' = if m' = m ∧ s' = ((σ.x.mp m).gr % 4).toNat then { (σ.x.mp m).sl ((σ.x.mp m).gr % 4).toNat with ph := 1 } else (σ.x.mp m').sl s' := fun m' s' => by
    rw [hmp]
    by_cases e : m' = m
    · subst e
      by_cases e2 : s' = ((σ.x.mp m').gr % 4).toNat
      · subst e2; simp [upd]
      · simp [e2, upd]
    · simp [e]
  have back : ∀ t', t' ≠ t → flying (grantX σ.x t m) t' → flying σ.x t' := by
    intro t' e hf'
    unfold flying at hf' ⊢
    rw [htp, if_neg e] at hf'
    exact hf'
  refine ⟨?_, ?_, ?_, h.sg, h.sr, h.sp, ?_, ?_, ?_, ?_, ?_, ?_, ?_, ?_, ?_⟩
  · intro t' ht'; simp only [htp]; split
    · show 0 ≤ ((m : Nat) : Int) ∧ ((m : Nat) : Int) < 3; omega
    · exact h.tm t' ht'
  · intro t' ht'; simp only [htp]; split
    · show 0 ≤ (σ.x.mp m).gr; omega
    · exact h.tsq t' ht'
  · intro t' ht'; simp only [htp]; split
    · show 0 ≤ ((m : Int) + 1) % 3 ∧ ((m : Int) + 1) % 3 < 3; omega
    · exact h.turn t' ht'
  · intro m' s' hm' hs'; simp only [hsl]; split
    · exact h.re m _ hm (by omega)
    · exact h.re m' s' hm' hs'
  · intro m' s' hm' hs'; simp only [hsl]; split
    · exact h.ad m _ hm (by omega)
    · exact h.ad m' s' hm' hs'
  · intro m' hm'
    simp only [hrt, his, hgr]
    split
    · rename_i e; subst e; exact ⟨c1, by omega, by omega, c4, c5⟩
    · exact h.cnt m' hm'
  · intro m' q hm' hq1 hq2
    simp only [hgr, his] at hq1 hq2
    simp only [slq, hsl]
    by_cases e : m' = m
    · subst e
      rw [if_pos rfl] at hq1
      rw [if_neg (fun hh => by have := window c1 (by omega) (by omega) c2 (by omega) hh.2; omega)]
      exact h.wait m' q hm' (by omega) hq2
    · rw [if_neg e] at hq1
      rw [if_neg (fun hh => e hh.1)]
      exact h.wait m' q hm' hq1 hq2
  · intro t' ht' hf'
    by_cases e : t' = t
    · subst e
      simp only [mo, slotOf, htp, if_true, hrt, hgr, hsl, Int.toNat_natCast]
      exact ⟨c2, by omega, by simp⟩
    · have hf0 := back t' e hf'
      obtain ⟨g1, g2, g3⟩ := h.fly t' ht' hf0
      have hm' : mo σ.x t' < 3 := by have := h.tm t' ht'; unfold mo; omega
      simp only [mo, slotOf, htp, if_neg e, hrt, hgr, hsl]
      unfold mo at g1 g2 hm'
      unfold slotOf at g3
      by_cases e2 : (σ.x.tp t').m.toNat = m
      · rw [e2] at g1 g2 g3 ⊢
        rw [if_pos rfl, if_neg (fun hh => by have := window c1 g1 (by omega) c2 (by omega) hh.2; omega)]
        exact ⟨g1, by omega, g3⟩
      · rw [if_neg e2, if_neg (fun hh => e2 hh.1)]
        exact ⟨g1, g2, g3⟩
  · intro t1 t2 h1 h2 f1 f2 hne
    by_cases e1 : t1 = t
    · subst e1
      have e2 : t2 ≠ t1 := Ne.symm hne
      obtain ⟨g1, g2, g3⟩ := h.fly t2 h2 (back t2 e2 f2)
      simp only [mo, htp, if_true, if_neg e2, Int.toNat_natCast]
      rintro ⟨a1, a2⟩
      unfold mo at g2
      rw [← a1] at g2
      omega
    · by_cases e2 : t2 = t
      · subst e2
        obtain ⟨g1, g2, g3⟩ := h.fly t1 h1 (back t1 e1 f1)
        simp only [mo, htp, if_true, if_neg e1, Int.toNat_natCast]
        rintro ⟨a1, a2⟩
        unfold mo at g2
        rw [a1] at g2
        omega
      · have := h.dist t1 t2 h1 h2 (back t1 e1 f1) (back t2 e2 f2) hne
        simp only [mo, htp, if_neg e1, if_neg e2]
        exact this
  · intro t' ht'
    simp only [htp]
    by_cases e : t' = t
    · subst e; simp
    · simp only [if_neg e]; exact h.orp t' ht'
  · intro t' ht'
    simp only [htp]
    by_cases e : t' = t
    · subst e; simp only [if_true]; exact (hpt ht').symm
    · simp only [if_neg e]; rw [hp t' ht' e]; exact h.busy t' ht'
  · intro t' ht'
    by_cases e : t' = t
    · subst e; exact hpp ht'
    · show PInv B (p t'); rw [hp t' ht' e]; exact (h.port t' ht').mono hB
theorem wantsF_one (x : XS) (t t' m : Nat) (h : wantsF x t m = true) (hne : t' ≠ t) : wantsF x t' m = false := by
  unfold wantsF at h ⊢
  simp only [Bool.and_eq_true, beq_iff_eq] at h
  rw [h.2]
  have : (t == t') = false := by simp; exact Ne.symm hne
  rw [this, Bool.and_false]
theorem XInv.arbN {N : Int} {A : Nat} {σ : SS} (h : XInv N A σ) (p : Int) (ρ : RepD) : ∀ k, k ≤ 7 → XInv N (A + k) (arbN (wantsF σ.x) p k (σ, ρ)).1 ∧ ∀ m, m < 3 → (∀ t, t < k → wantsF σ.x t m = false) → (arbN (wantsF σ.x) p k (σ, ρ)).1.x.mp m = σ.x.mp m
  | 0, _ => ⟨h, fun _ _ _ => rfl⟩
  | k + 1, hk => by
    obtain ⟨h1, h2⟩ := XInv.arbN h p ρ k (by omega)
    show XInv N (A + (k + 1)) (arbT (wantsF σ.x) p k (Qxb6500750aDoor.arbN (wantsF σ.x) p k (σ, ρ))).1 ∧ ∀ m, m < 3 → (∀ t, t < k + 1 → wantsF σ.x t m = false) → (arbT (wantsF σ.x) p k (Qxb6500750aDoor.arbN (wantsF σ.x) p k (σ, ρ))).1.x.mp m = σ.x.mp m
    generalize Qxb6500750aDoor.arbN (wantsF σ.x) p k (σ, ρ) = c at *
    unfold arbT
    by_cases hq : (c.1.x.tp k).busy = true ∨ wv (wantsF σ.x k) = 0
    · rw [if_pos hq]
      exact ⟨h1.mono (Nat.le_succ _), fun m hm hw => h2 m hm (fun t ht => hw t (by omega))⟩
    · rw [if_neg hq]
      have ht := h1.turn k (by omega)
      obtain ⟨m, hm⟩ : ∃ m, cho (wantsF σ.x k) (pickAt p k) (c.1.x.tp k).turn.toNat = m := ⟨_, rfl⟩
      have hm3 : m < 3 := by rw [← hm]; exact cho_lt _ _ _ (by omega)
      have hwm : wantsF σ.x k m = true := by rw [← hm]; exact cho_wants _ _ _ (by omega) (fun e => hq (.inr e))
      have hmp := h2 m hm3 (fun t ht => wantsF_one σ.x k t m hwm (by omega))
      simp only [hm]
      have hb : (c.1.x.tp k).busy = false := by
        cases hb : (c.1.x.tp k).busy
        · rfl
        · exact absurd (.inl hb) hq
      have hgi : (c.1.x.mp m).gr < (c.1.x.mp m).iss := by
        have hcn := h1.cnt m hm3
        have hne : (c.1.x.mp m).gr ≠ (c.1.x.mp m).iss := by
          rw [hmp]
          unfold wantsF at hwm
          simp only [Bool.and_eq_true, Bool.not_eq_true', beq_eq_false_iff_ne] at hwm
          exact hwm.1
        omega
      have hsp : ∀ s, (sent { c.1 with x := grantX c.1.x k m } k).p s = if s = k ∧ k < 6 then sendP (c.1.p k) (mkReq (grantX c.1.x k m) k) else c.1.p s := fun s => sent_p _ k s
      have h3 := h1.grant (t := k) (m := m) (by omega) hm3 hb hgi (sent { c.1 with x := grantX c.1.x k m } k).p (fun s hs e => by rw [hsp, if_neg (fun h => e h.1)]) (fun h6 => by rw [hsp, if_pos ⟨rfl, h6⟩]; rfl) (A + (k + 1)) (by omega)
        (fun h6 => by rw [hsp, if_pos ⟨rfl, h6⟩]; exact (h1.port k h6).send _)
      refine ⟨h3.stats _ _ _ (upd_range h1.sg (sat_range (h1.sg k (by omega)))) h3.sr h3.sp, fun m' hm' hw => ?_⟩
      have hne : m' ≠ m := fun e => by rw [e] at hw; have := hw k (by omega); rw [hwm] at this; cases this
      show (grantX c.1.x k m).mp m' = σ.x.mp m'
      have : (grantX c.1.x k m).mp m' = c.1.x.mp m' := if_neg hne
      rw [this]
      exact h2 m' hm' (fun t ht => hw t (by omega))
theorem XInv.arbOK {N : Int} {A : Nat} {σ : SS} (h : XInv N A σ) (hA : A < 1000000000) (hN : N < 4294967295) {t : Nat} (ht : t < 7) : ArbOK t σ where
  turn := h.turn t ht
  gr := fun m hm => by have := h.cnt m hm; omega
  sg := h.sg t ht
  free := fun h6 hb => (h.busy t h6).symm.trans hb
  pl := fun h6 => (h.port t h6).pl
  n := fun h6 => (h.port t h6).n
  a := fun h6 => Nat.lt_of_le_of_lt (h.port t h6).a hA
end Go.Proofs.Qxb6500750aDoor
