import Derived.Test.Qxb6500750aDoorBks
import Derived.Test.Qxb6500750aDoorSumA
namespace Go.Proofs.Qxb6500750aDoor
open Go.RowKit
/-! ### The books and the crossbar side by side, inside a tick -/
def serves (x : XS) (t m : Nat) (q : Int) : Prop := flying x t ∧ mo x t = m ∧ (x.tp t).sq = q
structure FlyOK (s : Slot) (ps : PS) (t m : Nat) (f : FL) : Prop where
  em : f.m = (m : Nat)
  et : f.t = (t : Nat)
  ew : f.w = s.req.w
  en : f.n = s.ret.re + 1
  n4 : 1 ≤ f.n ∧ f.n ≤ 4
  rep : f.rep = false
  ac : 0 ≤ f.ac ∧ f.ac ≤ f.n
  acw : f.w = true → f.ac ≤ 1 ∧ (f.la = 2 → f.ac = 0)
  la : t < 6 → ∃ l, ps.atts.getLast? = some l ∧ f.la = endP l.p
  la6 : ¬ t < 6 → f.la = 0 ∧ f.n = 1
def AirOK (x : XS) (ps : PS) (t : Nat) (B : BK) : Prop :=
  ∃ b f, B.a.pt t = .pointer (some ⟨b, 0, none⟩) ∧ B.fl b = some f ∧ B.γ (mo x t : Nat) (x.tp t).sq = some b ∧ FlyOK (slotOf x t) ps t (mo x t) f
def LandOK (s : Slot) (B : BK) (m : Nat) (q : Int) : Prop :=
  s.ph = 2 ∧ s.ret.va = true ∧ s.ret.sq = q ∧ ((B.γ (m : Nat) q = none ∧ s.ret.st = 4 ∧ s.ret.da = 0 ∧ s.ret.re = 0 ∧ s.ret.ca = 0) ∨
    ∃ b f, B.γ (m : Nat) q = some b ∧ B.fl b = some f ∧ s.ret.st = wantS f ∧ s.ret.re = f.n - 1 ∧ s.ret.ca = f.la ∧ f.rep = (wantS f == 3) ∧ 1 ≤ f.n ∧ f.n ≤ 4)
theorem AirOK.keep {x x' : XS} {ps ps' : PS} {t : Nat} {B B' : BK} (h : AirOK x ps t B) (e1 : (x'.tp t).m = (x.tp t).m) (e2 : (x'.tp t).sq = (x.tp t).sq) (e3 : slotOf x' t = slotOf x t) (e4 : t < 6 → ps'.atts = ps.atts) (hp : B'.a.pt t = B.a.pt t)
    (hf : ∀ b f, B.γ (mo x t : Nat) (x.tp t).sq = some b → B.fl b = some f → B'.fl b = some f) (hg : ∀ b, B.γ (mo x t : Nat) (x.tp t).sq = some b → B'.γ (mo x t : Nat) (x.tp t).sq = some b) : AirOK x' ps' t B' := by
  obtain ⟨b, f, h1, h2, h3, h4⟩ := h
  have em : mo x' t = mo x t := by unfold mo; rw [e1]
  refine ⟨b, f, hp.trans h1, hf b f h3 h2, by rw [em, e2]; exact hg b h3, ?_⟩
  rw [e3, em]
  exact ⟨h4.em, h4.et, h4.ew, h4.en, h4.n4, h4.rep, h4.ac, h4.acw, fun h6 => by rw [e4 h6]; exact h4.la h6, h4.la6⟩
theorem LandOK.keep {s : Slot} {B B' : BK} {m : Nat} {q : Int} (h : LandOK s B m q) (hn : B.γ (m : Nat) q = none → B'.γ (m : Nat) q = none) (hg : ∀ b, B.γ (m : Nat) q = some b → B'.γ (m : Nat) q = some b ∧ B'.fl b = B.fl b) : LandOK s B' m q := by
  obtain ⟨h1, h2, h3, h4⟩ := h
  refine ⟨h1, h2, h3, ?_⟩
  rcases h4 with ⟨a1, a2⟩ | ⟨b, f, a1, a2, a3⟩
  · exact .inl ⟨hn a1, a2⟩
  · obtain ⟨g1, g2⟩ := hg b a1
    exact .inr ⟨b, f, g1, by rw [g2]; exact a2, a3⟩
/-- The three states of a tick, and what is known of them. -/
structure TF (N : Int) (p : Int) (σ σ1 σ2 : SS) (ρ1 ρ : RepD) : Prop where
  inv : ∃ A, XInv N A σ
  inv1 : ∃ A, XInv N A σ1
  inv2 : ∃ A, XInv N A σ2
  col : ColI σ rep0 7 (σ1, ρ1)
  arb : ∃ ρ2, ArbI σ1 ρ1 p 7 (σ2, ρ2) ∧ ρ.g = ρ2.g ∧ ρ.rs = ρ1.rs ∧ ρ.rp = ρ1.rp
  six : (σ1.x.tp 6).busy = false
section
variable {N p : Int} {σ σ1 σ2 : SS} {ρ1 ρ : RepD}
theorem TF.outC (T : TF N p σ σ1 σ2 ρ1 ρ) {t : Nat} (ht : t < 7) : OutC t (σ.x.tp t) (σ.p t) (slotOf σ.x t) (σ.x.mp (mo σ.x t)).iso (σ1.x.tp t) (σ1.p t) (slotOf σ1.x t) (ρ.rs t) (ρ.rp t) := by
  obtain ⟨ρ2, _, _, e1, e2⟩ := T.arb
  rw [e1, e2]; exact T.col.near t ht
theorem TF.outA (T : TF N p σ σ1 σ2 ρ1 ρ) {t : Nat} (ht : t < 7) : OutA σ1.x p t (σ1.x.tp t) (σ1.p t) (σ2.x.tp t) (σ2.p t) (ρ.g t) := by
  obtain ⟨ρ2, ha, e, _⟩ := T.arb
  rw [e]; exact ha.near t ht
/-- A slot that is granted already is left alone by arbitrate. -/
theorem TF.sl12 (T : TF N p σ σ1 σ2 ρ1 ρ) {m : Nat} (hm : m < 3) {q : Int} (h1 : (σ.x.mp m).rt ≤ q) (h2 : q < (σ.x.mp m).gr) : slq σ2.x m q = slq σ1.x m q := by
  obtain ⟨ρ2, ha, _⟩ := T.arb
  obtain ⟨A, hi⟩ := T.inv1
  obtain ⟨y1, y2, y3, y4, y5⟩ := T.col.mp m
  obtain ⟨c1, c2, c3, c4, c5⟩ := hi.cnt m hm
  rcases ha.mp m hm with ⟨b, _⟩ | ⟨b, t, b1, b2, _⟩
  · unfold slq; rw [b]
  · unfold slq
    rw [b]
    unfold gMP
    have hlt : (σ1.x.mp m).gr < (σ1.x.mp m).iss := by
      rcases ha.near t b1 with ⟨h, _⟩ | ⟨m', h3, h4, _, _, _, h5, _⟩
      · rw [h] at b2; omega
      · rw [h4] at b2
        have : m' = m := by omega
        subst this; omega
    have hne : (q % 4).toNat ≠ ((σ1.x.mp m).gr % 4).toNat := fun e => by
      simp only [] at y2 y3
      have := window c1 (a := q) (b := (σ1.x.mp m).gr) (by omega) (by omega) (by omega) (by omega) e
      omega
    exact upd_ne _ _ _ _ hne
/-- A slot that no one in flight holds is left alone by collect. -/
theorem TF.sl01 (T : TF N p σ σ1 σ2 ρ1 ρ) {m : Nat} (hm : m < 3) {q : Int} (h1 : (σ.x.mp m).rt ≤ q) (h2 : q < (σ.x.mp m).iss) (hn : ∀ τ, τ < 7 → ¬ serves σ.x τ m q) : slq σ1.x m q = slq σ.x m q := by
  obtain ⟨A, hi⟩ := T.inv
  refine T.col.sl m _ (fun τ hτ hf => ?_)
  rintro ⟨e1, e2⟩
  obtain ⟨f1, f2, _⟩ := hi.fly τ hτ hf
  obtain ⟨c1, c2, c3, c4, c5⟩ := hi.cnt m hm
  rw [e1] at f1 f2
  exact hn τ hτ ⟨hf, e1, window c1 f1 (by omega) h1 (by omega) e2⟩
theorem TF.row1 (T : TF N p σ σ1 σ2 ρ1 ρ) (τ : Nat) : mo σ1.x τ = mo σ.x τ ∧ (σ1.x.tp τ).sq = (σ.x.tp τ).sq ∧ (σ1.x.tp τ).m = (σ.x.tp τ).m := by
  obtain ⟨y1, y2, _, _⟩ := T.col.row τ
  exact ⟨by unfold mo; rw [y1], y2, y1⟩
end
theorem mo_lt {N : Int} {A : Nat} {σ : SS} (h : XInv N A σ) {t : Nat} (ht : t < 7) : mo σ.x t < 3 := by have := h.tm t ht; unfold mo; omega
theorem slotOf_slq (x : XS) (t : Nat) : slotOf x t = slq x (mo x t) (x.tp t).sq := rfl
structure JT (σ σ1 σ2 : SS) (ρ : RepD) (a0 : AU) (t : Nat) (half : Bool) (B : BK) : Prop where
  on : AllOn B.a
  sm : B.a.rg = a0.rg ∧ B.a.av = a0.av ∧ B.a.rt = a0.rt ∧ B.a.tk = a0.tk ∧ B.a.ba = a0.ba ∧ B.a.cut = a0.cut ∧ B.a.fm = a0.fm
  gr1 : ∀ m, m < 3 → (∀ τ, τ < t → ρ.g τ ≠ (m : Nat)) → B.a.gr m = (σ.x.mp m).gr
  gr2 : ∀ m, m < 3 → ∀ τ, τ < t → ρ.g τ = (m : Nat) → B.a.gr m = (σ.x.mp m).gr + 1
  turn0 : ∀ τ, τ < 7 → t ≤ τ → B.a.turn τ = (σ.x.tp τ).turn
  turn2 : ∀ τ, τ < t → B.a.turn τ = (σ2.x.tp τ).turn
  air0 : ∀ τ, τ < 7 → t ≤ τ → (half = true → τ ≠ t) → flying σ.x τ → AirOK σ.x (σ.p τ) τ B
  air1 : half = true → flying σ1.x t → AirOK σ1.x (σ1.p t) t B
  air2 : ∀ τ, τ < t → flying σ2.x τ → AirOK σ2.x (σ2.p τ) τ B
  key : ∀ m, m < 3 → ∀ q, (σ.x.mp m).rt ≤ q → q < B.a.gr m → (∃ τ, τ < 7 ∧ t ≤ τ ∧ (half = true → τ ≠ t) ∧ serves σ.x τ m q) ∨ (half = true ∧ serves σ1.x t m q) ∨ (∃ τ, τ < t ∧ serves σ2.x τ m q) ∨ LandOK (slq σ2.x m q) B m q
  dom : ∀ m q b, B.γ m q = some b → ∃ mn : Nat, mn < 3 ∧ m = (mn : Nat) ∧ (σ.x.mp mn).rt ≤ q ∧ q < B.a.gr mn
  inj : ∀ m q m' q' b, B.γ m q = some b → B.γ m' q' = some b → m = m' ∧ q = q'
  fls : ∀ m q b, B.γ m q = some b → B.fl b ≠ none
theorem actB_refused {p : PlanD} (h : endP p = 2) : actB p.o = false := by
  unfold endP at h
  split at h
  · omega
  · unfold sendStatus at h
    unfold actB
    split at h
    · omega
    · split at h
      · rename_i h2; simp at h2; rw [h2]; rfl
      · split at h <;> omega
theorem repB_mayRep (f : FL) : repB f = mayRep f.w f.la := rfl
theorem midT_no {ρ : RepD} {p : Nat → PS} {t : Nat} {B : BK} (h1 : ρ.rs t = false) (h2 : ρ.rp t = false) : midT ρ p t B = B := by
  unfold midT
  split
  · rfl
  · rw [h1, h2]; rfl
theorem midT_rs {ρ : RepD} {p : Nat → PS} {t : Nat} {B : BK} (h1 : ρ.rs t = true) {b : Nat} {f : FL} (hp : B.a.pt t = .pointer (some ⟨b, 0, none⟩)) (hf : B.fl b = some f) : midT ρ p t B = setFl B b (noted f (some (lastA (p t)))) := by
  unfold midT
  rw [hp]
  simp only [ptN, hf, h1, if_true]
theorem midT_rp {ρ : RepD} {p : Nat → PS} {t : Nat} {B : BK} (h1 : ρ.rs t = false) (h2 : ρ.rp t = true) {b : Nat} {f : FL} (hp : B.a.pt t = .pointer (some ⟨b, 0, none⟩)) (hf : B.fl b = some f) : midT ρ p t B = setFl B b { f with rep := true } := by
  unfold midT
  rw [hp]
  simp only [ptN, hf, h1, h2, if_true, Bool.false_eq_true, if_false]
theorem lastA_concat {q : PS} {l : List Att} {x : Att} (h : q.atts = l ++ [x]) : q.atts.getLast? = some x ∧ lastA q = x ∧ q.atts ≠ [] := by
  unfold lastA
  rw [h, List.getLast?_concat]
  exact ⟨rfl, rfl, by simp⟩
/-- A flight turned that belongs to the key of target t: the rest of the books stands. -/
theorem JT.turned {σ σ1 σ2 : SS} {ρ : RepD} {a0 : AU} {t : Nat} {B : BK} (J : JT σ σ1 σ2 ρ a0 t false B) {b : Nat} {m : Nat} {q : Int} (hb : B.γ (m : Nat) q = some b) (f' : FL)
    (h0 : ∀ τ, τ < 7 → t ≤ τ → τ ≠ t → flying σ.x τ → ¬ (mo σ.x τ = m ∧ (σ.x.tp τ).sq = q)) (h2 : ∀ τ, τ < t → flying σ2.x τ → ¬ (mo σ2.x τ = m ∧ (σ2.x.tp τ).sq = q))
    (hair : flying σ1.x t → AirOK σ1.x (σ1.p t) t (setFl B b f'))
    (hkey : serves σ1.x t m q ∨ LandOK (slq σ2.x m q) (setFl B b f') m q) (hser : ∀ m' q', serves σ.x t m' q' → m' = m ∧ q' = q) (hland : ∀ m' q', LandOK (slq σ2.x m' q') B m' q' → m' = m → q' = q → LandOK (slq σ2.x m q) (setFl B b f') m q) :
    JT σ σ1 σ2 ρ a0 t true (setFl B b f') := by
  have hfl : ∀ b', b' ≠ b → (setFl B b f').fl b' = B.fl b' := fun b' hne => upd_ne _ _ _ _ hne
  have keep : ∀ m' q' b', B.γ m' q' = some b' → ¬ (m' = (m : Nat) ∧ q' = q) → b' ≠ b := fun m' q' b' hg hne e => by
    subst e; exact hne (J.inj _ _ _ _ _ hg hb)
  refine ⟨J.on, J.sm, J.gr1, J.gr2, J.turn0, J.turn2, fun τ hτ hle hne hf => ?_, fun _ => hair, fun τ hτ hf => ?_, fun m' hm' q' hq1 hq2 => ?_, J.dom, J.inj, fun m' q' b' hg => ?_⟩
  · refine (J.air0 τ hτ hle (fun h => by cases h) hf).keep rfl rfl rfl (fun _ => rfl) rfl (fun b' f hg hfb => ?_) (fun _ h => h)
    rw [hfl b' (keep _ _ b' hg (fun e => h0 τ hτ hle (hne rfl) hf ⟨by omega, e.2⟩))]; exact hfb
  · refine (J.air2 τ hτ hf).keep rfl rfl rfl (fun _ => rfl) rfl (fun b' f hg hfb => ?_) (fun _ h => h)
    rw [hfl b' (keep _ _ b' hg (fun e => h2 τ hτ hf ⟨by omega, e.2⟩))]; exact hfb
  · rcases J.key m' hm' q' hq1 hq2 with ⟨τ, hτ, hle, _, hs⟩ | ⟨hh, _⟩ | hs | hl
    · by_cases e : τ = t
      · subst e
        obtain ⟨e1, e2⟩ := hser m' q' hs
        subst e1; subst e2
        rcases hkey with h | h
        · exact .inr (.inl ⟨rfl, h⟩)
        · exact .inr (.inr (.inr h))
      · exact .inl ⟨τ, hτ, hle, fun _ => e, hs⟩
    · cases hh
    · exact .inr (.inr (.inl hs))
    · refine .inr (.inr (.inr ?_))
      by_cases e : m' = m ∧ q' = q
      · have := hland m' q' hl e.1 e.2
        rw [e.1, e.2]; exact this
      · exact hl.keep (fun h => h) (fun b' hg => ⟨hg, hfl b' (keep _ _ b' hg (fun e' => e ⟨by omega, e'.2⟩))⟩)
  · by_cases e : b' = b
    · subst e; show upd B.fl b' (some f') b' ≠ none; rw [upd_same]; simp
    · rw [hfl b' e]; exact J.fls m' q' b' hg
/-- Nothing happens to the flight at t. -/
theorem JT.stays {σ σ1 σ2 : SS} {ρ : RepD} {a0 : AU} {t : Nat} {B : BK} (J : JT σ σ1 σ2 ρ a0 t false B) (hair : flying σ1.x t → AirOK σ1.x (σ1.p t) t B) (hser : ∀ m q, m < 3 → serves σ.x t m q → serves σ1.x t m q ∨ LandOK (slq σ2.x m q) B m q) : JT σ σ1 σ2 ρ a0 t true B := by
  refine ⟨J.on, J.sm, J.gr1, J.gr2, J.turn0, J.turn2, fun τ hτ hle hne hf => J.air0 τ hτ hle (fun h => by cases h) hf, fun _ => hair, J.air2, fun m' hm' q' hq1 hq2 => ?_, J.dom, J.inj, J.fls⟩
  rcases J.key m' hm' q' hq1 hq2 with ⟨τ, hτ, hle, _, hs⟩ | ⟨hh, _⟩ | hs | hl
  · by_cases e : τ = t
    · subst e
      rcases hser m' q' hm' hs with h | h
      · exact .inr (.inl ⟨rfl, h⟩)
      · exact .inr (.inr (.inr h))
    · exact .inl ⟨τ, hτ, hle, fun _ => e, hs⟩
  · cases hh
  · exact .inr (.inr (.inl hs))
  · exact .inr (.inr (.inr hl))
theorem JT.mid {N p : Int} {σ σ1 σ2 : SS} {ρ1 ρ : RepD} (T : TF N p σ σ1 σ2 ρ1 ρ) (hw : ∀ m, m < 3 → ∀ q, (σ.x.mp m).rt ≤ q → q < (σ.x.mp m).iss → (slq σ.x m q).ret.va = true ∧ (slq σ.x m q).ret.sq = q) {a0 : AU} {t : Nat} (ht : t < 7) {B : BK}
    (J : JT σ σ1 σ2 ρ a0 t false B) : JT σ σ1 σ2 ρ a0 t true (midT ρ σ2.p t B) := by
  obtain ⟨A, hi⟩ := T.inv
  obtain ⟨A1, hi1⟩ := T.inv1
  obtain ⟨A2, hi2⟩ := T.inv2
  obtain ⟨r1, r2, r3⟩ := T.row1 t
  have hA := T.outA ht
  rcases T.outC ht with ⟨hnf, h1, h2, _, hnf1⟩ | ⟨hf, h6, h1, h2, ha, hr, hs⟩ | ⟨hf, h6, h1, h2, hr, ⟨l, hl, hm1, hre, hiso, him⟩, hs, pl, hpl, ha⟩ | ⟨hf, h1, hr, ha, st, da, ca, hs, hrp, hcase⟩
  · rw [midT_no h1 h2]
    exact J.stays (fun hh => absurd hh hnf1) (fun m q _ hh => absurd hh.1 hnf)
  · rw [midT_no h1 h2]
    refine J.stays (fun hh => (J.air0 t ht (Nat.le_refl _) (fun h => by cases h) hf).keep r3 r2 hs (fun _ => ha) rfl (fun _ _ _ h => h) (fun _ h => h)) (fun m q _ hh => .inl ⟨by unfold flying; rw [hr]; exact hf, r1.trans hh.2.1, r2.trans hh.2.2⟩)
  · -- sent again
    obtain ⟨b, f, hp, hfb, hg, F⟩ := J.air0 t ht (Nat.le_refl _) (fun h => by cases h) hf
    have hf1 : flying σ1.x t := by unfold flying; rw [hr]; exact hf
    have hq2 : σ2.x.tp t = σ1.x.tp t ∧ σ2.p t = σ1.p t := by
      rcases hA with ⟨_, e1, e2, _⟩ | ⟨_, _, _, hb, _⟩
      · exact ⟨e1, e2⟩
      · rw [hf1.1] at hb; cases hb
    have hf2 : flying σ2.x t := by unfold flying; rw [hq2.1]; exact hf1
    have hmo2 : mo σ2.x t = mo σ.x t ∧ (σ2.x.tp t).sq = (σ.x.tp t).sq := by unfold mo; rw [hq2.1, hr]; exact ⟨rfl, rfl⟩
    rw [midT_rs h1 hp hfb, hq2.2]
    obtain ⟨la1, la2, _⟩ := lastA_concat ha
    rw [la2]
    obtain ⟨l', hl', hla⟩ := F.la h6
    rw [hl] at hl'; cases hl'
    have hn3 : f.n ≤ 3 := by rw [F.en]; omega
    refine J.turned hg _ (fun τ hτ _ hne hfτ e => hi.dist τ t hτ ht hfτ hf hne ⟨e.1, e.2⟩) (fun τ hτ hfτ e => hi2.dist τ t (by omega) ht hfτ hf2 (by omega) ⟨by rw [e.1, hmo2.1], by rw [e.2, hmo2.2]⟩) (fun _ => ?_) (.inl ⟨hf1, r1, r2⟩) (fun m' q' hh => ⟨hh.2.1.symm, hh.2.2.symm⟩) (fun m' q' hl e1 e2 => ?_)
    · refine ⟨b, _, hp, upd_same _ _ _, by rw [r1, r2]; exact hg, ?_⟩
      rw [hs, r1]
      refine ⟨F.em, F.et, F.ew, ?_, ⟨?_, ?_⟩, F.rep, ?_, ?_, fun _ => ⟨_, la1, rfl⟩, fun h => absurd h6 h⟩
      · show f.n + 1 = (slotOf σ.x t).ret.re + 1 + 1; rw [F.en]
      · show 1 ≤ f.n + 1; have := F.n4; omega
      · show f.n + 1 ≤ 4; omega
      · show 0 ≤ (if actB pl.o = true then f.ac + 1 else f.ac) ∧ (if actB pl.o = true then f.ac + 1 else f.ac) ≤ f.n + 1
        have := F.ac
        split <;> omega
      · intro hw'
        show (if actB pl.o = true then f.ac + 1 else f.ac) ≤ 1 ∧ (endP pl = 2 → (if actB pl.o = true then f.ac + 1 else f.ac) = 0)
        have hw'' : f.w = true := hw'
        have hla2 : f.la = 2 := by
          rw [← F.ew, ← hla] at hm1
          unfold mayRep at hm1
          rw [hw''] at hm1
          simpa using hm1
        have h0 := (F.acw hw'').2 hla2
        refine ⟨by split <;> omega, fun he => ?_⟩
        rw [actB_refused he, h0]; rfl
    · exfalso
      obtain ⟨_, _, hph⟩ := hi2.fly t ht hf2
      rw [slotOf_slq, hmo2.1, hmo2.2] at hph
      have h9 := hl.1
      rw [e1, e2, hph] at h9
      cases h9
  · -- landed
    obtain ⟨b, f, hp, hfb, hg, F⟩ := J.air0 t ht (Nat.le_refl _) (fun h => by cases h) hf
    have hm3 := mo_lt hi ht
    obtain ⟨g1, g2, g3⟩ := hi.fly t ht hf
    have hc := hi.cnt _ hm3
    have hsl : slq σ2.x (mo σ.x t) (σ.x.tp t).sq = landS (slotOf σ.x t) st da ca := by
      rw [T.sl12 hm3 g1 g2, ← hs, slotOf_slq σ1.x t, r1, r2]
    obtain ⟨w1, w2⟩ := hw _ hm3 _ g1 (by omega)
    have hnf1 : ¬ flying σ1.x t := fun h => by unfold flying at h; rw [hr] at h; cases h.1
    have hland : ∀ B' : BK, ∀ f' : FL, B'.γ (mo σ.x t : Nat) (σ.x.tp t).sq = some b → B'.fl b = some f' → f'.t = f.t → f'.la = f.la → f'.n = f.n → f'.rep = (st == 3) → LandOK (slq σ2.x (mo σ.x t) (σ.x.tp t).sq) B' (mo σ.x t) (σ.x.tp t).sq := fun B' f' k1 k2 k3 k4 k5 k6 => by
      rw [hsl]
      have hwant : st = wantS f' ∧ ca = f'.la := by
        unfold wantS
        rw [k3, k4]
        rcases hcase with ⟨h6, ⟨l, hl, hca⟩, hst, _⟩ | ⟨h6, hst, hca⟩
        · obtain ⟨l', hl', hla⟩ := F.la h6
          rw [hl] at hl'; cases hl'
          rw [F.et, if_neg (by omega), hla, ← hca]
          exact ⟨hst, rfl⟩
        · obtain ⟨e1, e2⟩ := F.la6 h6
          rw [F.et, if_pos (by omega), e1]
          exact ⟨hst, hca⟩
      refine ⟨rfl, w1, w2, .inr ⟨b, f', k1, k2, hwant.1, ?_, hwant.2, by rw [← hwant.1]; exact k6, by rw [k5]; exact F.n4.1, by rw [k5]; exact F.n4.2⟩⟩
      show (slotOf σ.x t).ret.re = f'.n - 1
      rw [k5, F.en]; omega
    have h2ne : ∀ τ, τ < t → flying σ2.x τ → ¬ (mo σ2.x τ = mo σ.x t ∧ (σ2.x.tp τ).sq = (σ.x.tp t).sq) := fun τ hτ hfτ e => by
      obtain ⟨_, _, hph⟩ := hi2.fly τ (by omega) hfτ
      rw [slotOf_slq, e.1, e.2, hsl] at hph
      cases hph
    cases hrpb : ρ.rp t
    · rw [midT_no h1 hrpb]
      refine J.stays (fun h => absurd h hnf1) (fun m q _ hh => .inr ?_)
      have := hland B f hg hfb rfl rfl rfl (by rw [F.rep, ← hrp, hrpb])
      rw [hh.2.1, hh.2.2] at this; exact this
    · rw [midT_rp h1 hrpb hp hfb]
      have hL := hland (setFl B b { f with rep := true }) { f with rep := true } hg (upd_same _ _ _) rfl rfl rfl (by rw [← hrp, hrpb])
      exact J.turned hg _ (fun τ hτ _ hne hfτ e => hi.dist τ t hτ ht hfτ hf hne ⟨e.1, e.2⟩) h2ne (fun h => absurd h hnf1) (.inr hL) (fun m' q' hh => ⟨hh.2.1.symm, hh.2.2.symm⟩) (fun _ _ _ _ _ => hL)
theorem JT.gr {N p : Int} {σ σ1 σ2 : SS} {ρ1 ρ : RepD} (T : TF N p σ σ1 σ2 ρ1 ρ) (acc : Nat → List Req) (hw : ∀ m, m < 3 → (σ.x.mp m).gr < (σ.x.mp m).iss → (acc m)[(σ.x.mp m).gr.toNat]? = some (slq σ.x m (σ.x.mp m).gr).req ∧ (slq σ.x m (σ.x.mp m).gr).ret.re = 0) {a0 : AU} {t : Nat} (ht : t < 7) {B : BK} {nb : Nat} (hnb : B.fl nb = none)
    (J : JT σ σ1 σ2 ρ a0 t true B) : JT σ σ1 σ2 ρ a0 (t + 1) false (grT ρ σ2.p acc t nb B) := by
  obtain ⟨A, hi⟩ := T.inv
  obtain ⟨A1, hi1⟩ := T.inv1
  obtain ⟨A2, hi2⟩ := T.inv2
  obtain ⟨r1, r2, r3⟩ := T.row1 t
  rcases T.outA ht with ⟨hg, hr, hq, _⟩ | ⟨m, hm3, hg, hb, hwv, hch, hgi, hr, ha⟩
  · unfold grT
    rw [if_pos hg]
    refine ⟨J.on, J.sm, fun m hm h => J.gr1 m hm (fun τ hτ => h τ (by omega)), fun m hm τ hτ h => ?_, fun τ h7 hτ => J.turn0 τ h7 (by omega), fun τ hτ => ?_, fun τ h7 hτ _ hf => J.air0 τ h7 (by omega) (fun _ => by omega) hf, fun h => (by cases h), fun τ hτ hf => ?_, fun m hm q h1 h2 => ?_, J.dom, J.inj, J.fls⟩
    · by_cases e : τ = t
      · subst e; rw [hg] at h; omega
      · exact J.gr2 m hm τ (by omega) h
    · by_cases e : τ = t
      · subst e; rw [hr, J.turn0 τ ht (Nat.le_refl _)]; exact (T.col.row τ).2.2.1.symm
      · exact J.turn2 τ (by omega)
    · by_cases e : τ = t
      · subst e
        have hf1 : flying σ1.x τ := by unfold flying at hf ⊢; rw [hr] at hf; exact hf
        have hm3 := mo_lt hi1 ht
        obtain ⟨g1, g2, _⟩ := hi1.fly τ ht hf1
        obtain ⟨_, y2, y3, _⟩ := T.col.mp (mo σ1.x τ)
        have hsl := T.sl12 hm3 (q := (σ1.x.tp τ).sq) (by rw [← y3]; exact g1) (by rw [← y2]; exact g2)
        refine (J.air1 rfl hf1).keep (by rw [hr]) (by rw [hr]) ?_ (fun _ => by rw [hq]) rfl (fun _ _ _ h => h) (fun _ h => h)
        rw [slotOf_slq, slotOf_slq]
        have em : mo σ2.x τ = mo σ1.x τ := by unfold mo; rw [hr]
        rw [em, hr]; exact hsl
      · exact J.air2 τ (by omega) hf
    · rcases J.key m hm q h1 h2 with ⟨τ, h7, hle, hne, hs⟩ | ⟨_, hs⟩ | ⟨τ, hτ, hs⟩ | hl
      · exact .inl ⟨τ, h7, by have := hne rfl; omega, fun h => (by cases h), hs⟩
      · refine .inr (.inr (.inl ⟨t, by omega, ?_⟩))
        unfold serves flying mo at hs ⊢
        rw [hr]; exact hs
      · exact .inr (.inr (.inl ⟨τ, by omega, hs⟩))
      · exact .inr (.inr (.inr hl))
  · obtain ⟨ρ2, hAI, hge, _⟩ := T.arb
    have huniq : ∀ τ, τ < 7 → ρ.g τ = (m : Nat) → τ = t := fun τ hτ h => by
      rw [hge] at hg h
      rcases hAI.mp m hm3 with ⟨_, hn⟩ | ⟨_, t', _, _, hu⟩
      · exact absurd hg (hn t ht)
      · rw [hu τ hτ h, hu t ht hg]
    have hmp : σ2.x.mp m = gMP (σ1.x.mp m) := by
      rcases hAI.mp m hm3 with ⟨_, hn⟩ | ⟨h, _⟩
      · rw [hge] at hg; exact absurd hg (hn t ht)
      · exact h
    obtain ⟨y1, y2, y3, _, _⟩ := T.col.mp m
    have hgm : B.a.gr m = (σ.x.mp m).gr := J.gr1 m hm3 (fun τ hτ h => by have := huniq τ (by omega) h; omega)
    have hc := hi.cnt m hm3
    have hlt : (σ.x.mp m).gr < (σ.x.mp m).iss := by
      simp only [] at y1 y2
      rw [y1, y2] at hgi; omega
    obtain ⟨n, hn⟩ := Int.eq_ofNat_of_zero_le (show 0 ≤ (σ.x.mp m).gr by omega)
    obtain ⟨hr0, hre0⟩ := hw m hm3 hlt
    rw [hn, Int.toNat_natCast] at hr0
    have hs1 : slq σ1.x m (σ.x.mp m).gr = slq σ.x m (σ.x.mp m).gr := T.sl01 hm3 (by omega) (by omega) (fun τ hτ hs => by
      obtain ⟨_, g2, _⟩ := hi.fly τ hτ hs.1
      rw [hs.2.1, hs.2.2] at g2; omega)
    have hgn : B.γ (m : Nat) (n : Nat) = none := by
      cases hγ : B.γ (m : Nat) (n : Nat) with
      | none => rfl
      | some b =>
        obtain ⟨mn, _, e, _, h9⟩ := J.dom _ _ _ hγ
        have : mn = m := by omega
        subst this
        rw [hgm, hn] at h9; omega
    have hB' : grT ρ σ2.p acc t nb B = { a := { B.a with gr := upd B.a.gr m ((n : Nat) + 1), turn := upd B.a.turn t (((m : Nat) + 1) % 3), pt := upd B.a.pt t (.pointer (some ⟨nb, 0, none⟩)) }, γ := gset B.γ (m : Nat) (n : Nat) (some nb), fl := upd B.fl nb (some (noteT σ2.p t (flight0 m (slq σ.x m (σ.x.mp m).gr).req t))) } := by
      unfold grT
      rw [if_neg (by rw [hg]; omega), hg]
      simp only [Int.toNat_natCast, hgm, hn, hr0, Option.getD_some]
    rw [hB']
    have hgs : ∀ m' q' b, B.γ m' q' = some b → gset B.γ (m : Nat) (n : Nat) (some nb) m' q' = some b := fun m' q' b h => by
      unfold gset
      rw [if_neg]
      · exact h
      · rintro ⟨e1, e2⟩; rw [e1, e2, hgn] at h; cases h
    have hfs : ∀ b f, B.fl b = some f → upd B.fl nb (some (noteT σ2.p t (flight0 m (slq σ.x m (σ.x.mp m).gr).req t))) b = some f := fun b f h => by
      rw [upd_ne]
      · exact h
      · rintro rfl; rw [hnb] at h; cases h
    have hgset : ∀ m' q' b, gset B.γ (m : Nat) (n : Nat) (some nb) m' q' = some b → (m' = (m : Nat) ∧ q' = (n : Nat) ∧ b = nb) ∨ B.γ m' q' = some b := fun m' q' b h => by
      unfold gset at h
      split at h
      · rename_i e; cases h; exact .inl ⟨e.1, e.2, rfl⟩
      · exact .inr h
    have hf2 : flying σ2.x t := by
      unfold flying
      rw [hr]
      refine ⟨rfl, ?_⟩
      show (σ1.x.tp t).orph = false
      cases ho : (σ1.x.tp t).orph
      · rfl
      · have := hi1.orp t ht ho; rw [hb] at this; cases this
    have hmo2 : mo σ2.x t = m := by unfold mo; rw [hr]; exact Int.toNat_natCast m
    have hsq2 : (σ2.x.tp t).sq = (n : Nat) := by rw [hr]; show (σ1.x.mp m).gr = _; simp only [] at y2; rw [y2, hn]
    have hnf1 : ¬ flying σ1.x t := fun h => by rw [h.1] at hb; cases hb
    refine ⟨⟨J.on.f0, J.on.f1, J.on.f2, J.on.f3⟩, J.sm, fun m' hm' h => ?_, fun m' hm' τ hτ h => ?_, fun τ h7 hτ => ?_, fun τ hτ => ?_, fun τ h7 hτ _ hf => ?_, fun h => (by cases h), fun τ hτ hf => ?_, fun m' hm' q' h1 h2 => ?_, fun m' q' b h => ?_, fun m1 q1 m2 q2 b h1 h2 => ?_, fun m' q' b h => ?_⟩
    · have hne : m' ≠ m := fun e => by subst e; exact h t (by omega) hg
      show upd B.a.gr m _ m' = _
      rw [upd_ne _ _ _ _ hne]; exact J.gr1 m' hm' (fun τ hτ => h τ (by omega))
    · show upd B.a.gr m _ m' = _
      by_cases e : m' = m
      · subst e; rw [upd_same, hn]
      · rw [upd_ne _ _ _ _ e]
        refine J.gr2 m' hm' τ ?_ h
        by_cases e2 : τ = t
        · subst e2; rw [hg] at h; omega
        · omega
    · show upd B.a.turn t _ τ = _
      rw [upd_ne _ _ _ _ (by omega)]; exact J.turn0 τ h7 (by omega)
    · show upd B.a.turn t _ τ = _
      by_cases e : τ = t
      · subst e; rw [upd_same, hr]
      · rw [upd_ne _ _ _ _ e]; exact J.turn2 τ (by omega)
    · refine (J.air0 τ h7 (by omega) (fun _ => by omega) hf).keep rfl rfl rfl (fun _ => rfl) (upd_ne _ _ _ _ (by omega)) (fun b f _ h => hfs b f h) (fun b h => hgs _ _ b h)
    · by_cases e : τ = t
      · subst e
        refine ⟨nb, _, upd_same _ _ _, upd_same _ _ _, ?_, ?_⟩
        · rw [hmo2, hsq2]; exact if_pos ⟨rfl, rfl⟩
        · have hslot : slotOf σ2.x τ = { slq σ.x m (σ.x.mp m).gr with ph := 1 } := by
            rw [slotOf_slq, hmo2, hsq2, ← hs1]
            unfold slq
            rw [hmp]
            unfold gMP
            simp only [] at y2
            rw [y2, hn]
            exact upd_same _ _ _
          rw [hslot, hmo2]
          unfold noteT flight0
          by_cases h6 : τ < 6
          · rw [if_pos h6]
            obtain ⟨pl, hpl, hat⟩ := ha h6
            obtain ⟨la1, la2, _⟩ := lastA_concat hat
            rw [la2]
            refine ⟨rfl, rfl, rfl, ?_, ⟨?_, ?_⟩, rfl, ?_, fun hw' => ?_, fun _ => ⟨_, la1, rfl⟩, fun h => absurd h6 h⟩
            · show (0 : Int) + 1 = (slq σ.x m (σ.x.mp m).gr).ret.re + 1; rw [hre0]
            · show (1 : Int) ≤ 0 + 1; omega
            · show (0 : Int) + 1 ≤ 4; omega
            · show 0 ≤ (if actB pl.o = true then (0 : Int) + 1 else 0) ∧ (if actB pl.o = true then (0 : Int) + 1 else 0) ≤ 0 + 1
              split <;> omega
            · show (if actB pl.o = true then (0 : Int) + 1 else 0) ≤ 1 ∧ (endP pl = 2 → (if actB pl.o = true then (0 : Int) + 1 else 0) = 0)
              refine ⟨by split <;> omega, fun he => by rw [actB_refused he]; rfl⟩
          · rw [if_neg h6]
            refine ⟨rfl, rfl, rfl, ?_, ⟨?_, ?_⟩, rfl, ?_, fun hw' => ?_, fun h => absurd h h6, fun _ => ⟨rfl, rfl⟩⟩
            · show (0 : Int) + 1 = (slq σ.x m (σ.x.mp m).gr).ret.re + 1; rw [hre0]
            · show (1 : Int) ≤ 0 + 1; omega
            · show (0 : Int) + 1 ≤ 4; omega
            · show (0 : Int) ≤ 0 ∧ (0 : Int) ≤ 0 + 1; omega
            · show (0 : Int) ≤ 1 ∧ ((0 : Int) = 2 → (0 : Int) = 0); omega
      · exact (J.air2 τ (by omega) hf).keep rfl rfl rfl (fun _ => rfl) (upd_ne _ _ _ _ e) (fun b f _ h => hfs b f h) (fun b h => hgs _ _ b h)
    · have h2 : q' < upd B.a.gr m ((n : Nat) + 1) m' := h2
      by_cases e : m' = m ∧ q' = (n : Nat)
      · obtain ⟨e1, e2⟩ := e
        subst e1; subst e2
        exact .inr (.inr (.inl ⟨t, by omega, hf2, hmo2, hsq2⟩))
      · have h2' : q' < B.a.gr m' := by
          by_cases e1 : m' = m
          · subst e1; rw [upd_same] at h2; rw [hgm, hn]
            have : q' ≠ (n : Nat) := fun e2 => e ⟨rfl, e2⟩
            show q' < (n : Nat); omega
          · rw [upd_ne _ _ _ _ e1] at h2; exact h2
        rcases J.key m' hm' q' h1 h2' with ⟨τ, h7, hle, hne, hs⟩ | ⟨_, hs⟩ | ⟨τ, hτ, hs⟩ | hl
        · exact .inl ⟨τ, h7, by have := hne rfl; omega, fun h => (by cases h), hs⟩
        · exact absurd hs.1 hnf1
        · exact .inr (.inr (.inl ⟨τ, by omega, hs⟩))
        · refine .inr (.inr (.inr (hl.keep (fun h => ?_) (fun b h => ⟨hgs _ _ b h, ?_⟩))))
          · show gset B.γ (m : Nat) (n : Nat) (some nb) (m' : Nat) q' = none
            unfold gset; rw [if_neg]
            · exact h
            · rintro ⟨e1, e2⟩; exact e ⟨by omega, e2⟩
          · show upd B.fl nb _ b = _
            rw [upd_ne]
            rintro rfl
            exact J.fls _ _ _ h hnb
    · rcases hgset m' q' b h with ⟨e1, e2, _⟩ | h
      · refine ⟨m, hm3, e1, by rw [e2]; have h9 : (σ.x.mp m).rt ≤ (σ.x.mp m).gr := hc.2.1; rw [hn] at h9; exact h9, ?_⟩
        show q' < upd B.a.gr m _ m
        rw [upd_same, e2]; omega
      · obtain ⟨mn, k1, k2, k3, k4⟩ := J.dom _ _ _ h
        refine ⟨mn, k1, k2, k3, ?_⟩
        show q' < upd B.a.gr m _ mn
        by_cases e1 : mn = m
        · subst e1; rw [upd_same]; rw [hgm, hn] at k4
          have k4 : q' < (n : Nat) := k4
          omega
        · rw [upd_ne _ _ _ _ e1]; exact k4
    · rcases hgset _ _ _ h1 with ⟨a1, a2, a3⟩ | h1
      · rcases hgset _ _ _ h2 with ⟨b1, b2, _⟩ | h2
        · exact ⟨a1.trans b1.symm, a2.trans b2.symm⟩
        · rw [a3] at h2; exact absurd hnb (J.fls _ _ _ h2)
      · rcases hgset _ _ _ h2 with ⟨_, _, b3⟩ | h2
        · rw [b3] at h1; exact absurd hnb (J.fls _ _ _ h1)
        · exact J.inj _ _ _ _ _ h1 h2
    · show upd B.fl nb _ b ≠ none
      rcases hgset _ _ _ h with ⟨_, _, e⟩ | h
      · rw [e, upd_same]; simp
      · have hn' := J.fls _ _ _ h
        rw [upd_ne]
        · exact hn'
        · rintro rfl; exact hn' hnb
end Go.Proofs.Qxb6500750aDoor
