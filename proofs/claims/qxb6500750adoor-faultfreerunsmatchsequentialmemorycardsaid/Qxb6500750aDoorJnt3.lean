import Derived.Test.Qxb6500750aDoorJnt2
namespace Go.Proofs.Qxb6500750aDoor
open Go.RowKit
/-! ### The returns -/
def retM (ρ : RepD) (m : Nat) (B : BK) : BK :=
  if (ρ.r m).va = true then { B with a := { B.a with tk := upd B.a.tk m false, rt := upd B.a.rt m ((ρ.r m).sq + 1) }, γ := gset B.γ (m : Nat) (ρ.r m).sq none }
  else { B with a := { B.a with tk := upd B.a.tk m false } }
structure RetOK (ρ : RepD) (m : Nat) (B : BK) : Prop where
  on : AllOn B.a
  ret : (ρ.r m).va = true → ∃ q : Nat, (ρ.r m).sq = (q : Nat) ∧ B.a.rt m = (q : Nat) ∧ ((q : Nat) : Int) < B.a.gr m ∧ B.a.gr m < 4000000 ∧
    ((B.γ (m : Nat) (q : Nat) = none ∧ ρ.r m = ⟨true, (q : Nat), 4, 0, 0, 0⟩) ∨ ∃ b f, B.γ (m : Nat) (q : Nat) = some b ∧ B.fl b = some f ∧ ρ.r m = ⟨true, (q : Nat), wantS f, (ρ.r m).da, f.n - 1, f.la⟩ ∧ f.rep = (wantS f == 3) ∧ 1 ≤ f.n ∧ f.n ≤ 4)
theorem handT_mp (k j : Nat) (c : XS × RepD) : (handT k c).1.mp j = if j = k then (if hands c.1 k = true then { c.1.mp k with tk := false, rt := (c.1.mp k).rt + 1 } else { c.1.mp k with tk := false }) else c.1.mp j := by
  unfold handT
  by_cases h : hands c.1 k = true
  · rw [if_pos h, if_pos h]; rfl
  · rw [if_neg h, if_neg h]; rfl
theorem handT_r (k j : Nat) (c : XS × RepD) : (handT k c).2.r j = if j = k ∧ hands c.1 k = true then (slq c.1 k (c.1.mp k).rt).ret else c.2.r j := by
  unfold handT
  by_cases h : hands c.1 k = true
  · rw [if_pos h]
    by_cases e : j = k
    · subst e; rw [if_pos ⟨rfl, h⟩]; exact upd_same _ _ _
    · rw [if_neg (fun hh => e hh.1)]; exact upd_ne _ _ _ _ e
  · rw [if_neg h, if_neg (fun hh => h hh.2)]
theorem handN_all (c : XS × RepD) : ∀ n, ((handN n c).1.tp = c.1.tp ∧ (handN n c).2.g = c.2.g ∧ (handN n c).2.rs = c.2.rs ∧ (handN n c).2.rp = c.2.rp) ∧
    (∀ j, (handN n c).1.mp j = if j < n then (if hands c.1 j = true then { c.1.mp j with tk := false, rt := (c.1.mp j).rt + 1 } else { c.1.mp j with tk := false }) else c.1.mp j) ∧
    (∀ j, (handN n c).2.r j = if j < n ∧ hands c.1 j = true then (slq c.1 j (c.1.mp j).rt).ret else c.2.r j)
  | 0 => ⟨⟨rfl, rfl, rfl, rfl⟩, fun j => by rw [if_neg (by omega)]; rfl, fun j => by rw [if_neg (by omega)]; rfl⟩
  | n + 1 => by
    obtain ⟨⟨h1, h2, h3, h4⟩, h5, h6⟩ := handN_all c n
    have hn : (handN n c).1.mp n = c.1.mp n := by rw [h5, if_neg (by omega)]
    have hh : hands (handN n c).1 n = hands c.1 n := by unfold hands; rw [hn]
    show (((handT n (handN n c)).1.tp = _ ∧ (handT n (handN n c)).2.g = _ ∧ (handT n (handN n c)).2.rs = _ ∧ (handT n (handN n c)).2.rp = _) ∧ _ ∧ _)
    refine ⟨?_, fun j => ?_, fun j => ?_⟩
    · unfold handT
      split
      · exact ⟨h1, h2, h3, h4⟩
      · exact ⟨h1, h2, h3, h4⟩
    · show (handT n (handN n c)).1.mp j = _
      rw [handT_mp, hh, hn]
      by_cases e : j = n
      · subst e; rw [if_pos rfl, if_pos (show j < j + 1 by omega)]
      · rw [if_neg e, h5]
        by_cases e2 : j < n
        · rw [if_pos e2, if_pos (show j < n + 1 by omega)]
        · rw [if_neg e2, if_neg (show ¬ j < n + 1 by omega)]
    · show (handT n (handN n c)).2.r j = _
      rw [handT_r, hh]
      by_cases e : j = n
      · subst e
        by_cases hb : hands c.1 j = true
        · rw [if_pos ⟨rfl, hb⟩, if_pos ⟨by omega, hb⟩]; unfold slq; rw [hn]
        · rw [if_neg (fun h => hb h.2), if_neg (fun h => hb h.2), h6, if_neg (fun h => hb h.2)]
      · rw [if_neg (fun h => e h.1), h6]
        by_cases e2 : j < n
        · by_cases hb : hands c.1 j = true
          · rw [if_pos ⟨e2, hb⟩, if_pos ⟨by omega, hb⟩]
          · rw [if_neg (fun h => hb h.2), if_neg (fun h => hb h.2)]
        · rw [if_neg (fun h => e2 h.1), if_neg (fun h => e2 (by omega))]
/-- Behind the rounds of the targets: k masters have been handed their answers. -/
structure J2 (σ : SS) (ρ : RepD) (a0 : AU) (k : Nat) (B : BK) : Prop where
  on : AllOn B.a
  sm : B.a.rg = a0.rg ∧ B.a.av = a0.av ∧ B.a.ba = a0.ba ∧ B.a.cut = a0.cut ∧ B.a.fm = a0.fm
  gr : ∀ m, m < 3 → B.a.gr m = (σ.x.mp m).gr
  turn : ∀ t, t < 7 → B.a.turn t = (σ.x.tp t).turn
  rt : ∀ m, m < 3 → B.a.rt m = if m < k ∧ hands σ.x m = true then (σ.x.mp m).rt + 1 else (σ.x.mp m).rt
  tk : ∀ m, m < 3 → m < k → B.a.tk m = false
  air : ∀ t, t < 7 → flying σ.x t → AirOK σ.x (σ.p t) t B
  key : ∀ m, m < 3 → ∀ q, B.a.rt m ≤ q → q < (σ.x.mp m).gr → (∃ τ, τ < 7 ∧ serves σ.x τ m q) ∨ LandOK (slq σ.x m q) B m q
  dom : ∀ m q b, B.γ m q = some b → ∃ mn : Nat, mn < 3 ∧ m = (mn : Nat) ∧ B.a.rt mn ≤ q ∧ q < (σ.x.mp mn).gr
  inj : ∀ m q m' q' b, B.γ m q = some b → B.γ m' q' = some b → m = m' ∧ q = q'
  fls : ∀ m q b, B.γ m q = some b → B.fl b ≠ none
theorem J2.of_rounds {N p : Int} {σ σ1 σ2 : SS} {ρ1 ρ : RepD} (T : TF N p σ σ1 σ2 ρ1 ρ) {B0 : BK} {acc : Nat → List Req} (J0 : JI σ B0 acc) {B : BK} (J : JT σ σ1 σ2 ρ B0.a 7 false B) : J2 σ2 ρ B0.a 0 B := by
  obtain ⟨s1, s2, s3, s4, s5, s6, s7⟩ := J.sm
  obtain ⟨ρ2, hAI, hge, _⟩ := T.arb
  have hmp : ∀ m, m < 3 → (σ2.x.mp m).rt = (σ.x.mp m).rt ∧ B.a.gr m = (σ2.x.mp m).gr := fun m hm => by
    obtain ⟨y1, y2, y3, _⟩ := T.col.mp m
    simp only [] at y2 y3
    rcases hAI.mp m hm with ⟨h, hn⟩ | ⟨h, t, ht, hg, _⟩
    · rw [h]
      exact ⟨y3, by rw [J.gr1 m hm (fun τ hτ => by rw [hge]; exact hn τ hτ)]; exact y2.symm⟩
    · rw [h]
      refine ⟨y3, ?_⟩
      rw [J.gr2 m hm t ht (by rw [hge]; exact hg)]
      show _ = (σ1.x.mp m).gr + 1
      rw [y2]
  refine ⟨J.on, ⟨s1, s2, s5, s6, s7⟩, fun m hm => (hmp m hm).2, fun t ht => J.turn2 t ht, fun m hm => ?_, fun m _ h => absurd h (by omega), fun t ht hf => J.air2 t ht hf, fun m hm q h1 h2 => ?_, fun m q b h => ?_, J.inj, J.fls⟩
  · rw [if_neg (by omega), s3, J0.rt m hm, (hmp m hm).1]
  · rw [s3, J0.rt m hm] at h1
    rw [← (hmp m hm).2] at h2
    rcases J.key m hm q h1 h2 with ⟨τ, h7, hle, _⟩ | ⟨hh, _⟩ | hs | hl
    · omega
    · cases hh
    · exact .inl hs
    · exact .inr hl
  · obtain ⟨mn, k1, k2, k3, k4⟩ := J.dom m q b h
    exact ⟨mn, k1, k2, by rw [s3, J0.rt mn k1]; exact k3, by rw [← (hmp mn k1).2]; exact k4⟩
theorem J2.ok {N : Int} {A : Nat} {σ : SS} {ρ : RepD} {a0 : AU} (hi : XInv N A σ) (hN : N < 4000000) (hr : ∀ m, m < 3 → ρ.r m = if hands σ.x m = true then (slq σ.x m (σ.x.mp m).rt).ret else ret0) {k : Nat} (hk : k < 3) {B : BK} (J : J2 σ ρ a0 k B) :
    RetOK ρ k B ∧ J2 σ ρ a0 (k + 1) (retM ρ k B) := by
  have hc := hi.cnt k hk
  have hrk := hr k hk
  have hrt0 : B.a.rt k = (σ.x.mp k).rt := by rw [J.rt k hk, if_neg (by omega)]
  by_cases hh : hands σ.x k = true
  · rw [if_pos hh] at hrk
    have hh' := hh
    unfold hands at hh'
    simp only [Bool.and_eq_true, Bool.not_eq_true', beq_eq_false_iff_ne, beq_iff_eq] at hh'
    obtain ⟨hne, hph⟩ := hh'
    have hph : (slq σ.x k (σ.x.mp k).rt).ph = 2 := hph
    have hlt : (σ.x.mp k).rt < (σ.x.mp k).gr := by
      by_cases h : (σ.x.mp k).rt < (σ.x.mp k).gr
      · exact h
      · have := hi.wait k (σ.x.mp k).rt hk (by omega) (by omega)
        rw [hph] at this; cases this
    have hland : LandOK (slq σ.x k (σ.x.mp k).rt) B k (σ.x.mp k).rt := by
      rcases J.key k hk (σ.x.mp k).rt (by omega) hlt with ⟨τ, h7, hs⟩ | h
      · exfalso
        obtain ⟨_, _, h1⟩ := hi.fly τ h7 hs.1
        rw [slotOf_slq, hs.2.1, hs.2.2, hph] at h1; cases h1
      · exact h
    obtain ⟨q, hq⟩ := Int.eq_ofNat_of_zero_le hc.1
    have hq : (σ.x.mp k).rt = ((q : Nat) : Int) := hq
    rw [hq] at hrk hland hlt hrt0
    obtain ⟨l1, l2, l3, l4⟩ := hland
    have hva : (ρ.r k).va = true := by rw [hrk]; exact l2
    have hsq : (ρ.r k).sq = (q : Nat) := by rw [hrk]; exact l3
    constructor
    · refine ⟨J.on, fun _ => ⟨q, hsq, hrt0, by rw [J.gr k hk]; exact hlt, by rw [J.gr k hk]; omega, ?_⟩⟩
      rcases l4 with ⟨g1, g2, g3, g4, g5⟩ | ⟨b, f, g1, g2, g3, g4, g5, g6⟩
      · left
        refine ⟨g1, ?_⟩
        rw [hrk]
        revert l2 l3 g2 g3 g4 g5
        generalize (slq σ.x k (q : Nat)).ret = r
        rintro h1 h2 h3 h4 h5 h6
        cases r
        simp only at h1 h2 h3 h4 h5 h6
        rw [h1, h2, h3, h4, h5, h6]
      · right
        refine ⟨b, f, g1, g2, ?_, g6⟩
        rw [hrk]
        revert l2 l3 g3 g4 g5
        generalize (slq σ.x k (q : Nat)).ret = r
        rintro h1 h2 h3 h4 h5
        cases r
        simp only at h1 h2 h3 h4 h5
        rw [h1, h2, h3, h4, h5]
    · unfold retM
      rw [if_pos hva, hsq]
      have hgs : ∀ (m' q' : Int) (b : Nat), gset B.γ (k : Nat) (q : Nat) none m' q' = some b → B.γ m' q' = some b ∧ ¬ (m' = (k : Nat) ∧ q' = (q : Nat)) := fun m' q' b h => by
        unfold gset at h
        split at h
        · cases h
        · rename_i e; exact ⟨h, e⟩
      have hgk : ∀ m' q' : Int, ¬ (m' = (k : Nat) ∧ q' = ((q : Nat) : Int)) → gset B.γ (k : Nat) (q : Nat) none m' q' = B.γ m' q' := fun m' q' e => if_neg e
      refine ⟨⟨J.on.f0, J.on.f1, J.on.f2, J.on.f3⟩, J.sm, J.gr, J.turn, fun m hm => ?_, fun m hm hle => ?_, fun t ht hf => ?_, fun m hm q' h1 h2 => ?_, fun m q' b h => ?_, fun m1 q1 m2 q2 b h1 h2 => J.inj _ _ _ _ _ (hgs _ _ _ h1).1 (hgs _ _ _ h2).1, fun m q' b h => J.fls _ _ _ (hgs _ _ _ h).1⟩
      · show upd B.a.rt k ((q : Nat) + 1) m = _
        by_cases e : m = k
        · subst e; rw [upd_same, if_pos ⟨by omega, hh⟩, hq]
        · rw [upd_ne _ _ _ _ e, J.rt m hm]
          by_cases hb : hands σ.x m = true
          · by_cases h9 : m < k
            · rw [if_pos ⟨h9, hb⟩, if_pos ⟨by omega, hb⟩]
            · rw [if_neg (fun h => h9 h.1), if_neg (fun h => h9 (by omega))]
          · rw [if_neg (fun h => hb h.2), if_neg (fun h => hb h.2)]
      · show upd B.a.tk k false m = false
        by_cases e : m = k
        · subst e; exact upd_same _ _ _
        · rw [upd_ne _ _ _ _ e]; exact J.tk m hm (by omega)
      · refine (J.air t ht hf).keep rfl rfl rfl (fun _ => rfl) rfl (fun _ _ _ h => h) (fun b h => ?_)
        show gset B.γ _ _ none _ _ = some b
        rw [hgk]
        · exact h
        · rintro ⟨e1, e2⟩
          obtain ⟨_, _, h1⟩ := hi.fly t ht hf
          have e1' : mo σ.x t = k := by omega
          rw [slotOf_slq, e1', e2, l1] at h1; cases h1
      · have h1 : upd B.a.rt k ((q : Nat) + 1) m ≤ q' := h1
        have hne : ¬ (((m : Nat) : Int) = ((k : Nat) : Int) ∧ q' = ((q : Nat) : Int)) := by
          rintro ⟨e1, e2⟩
          have : m = k := by omega
          subst this
          rw [upd_same] at h1; omega
        have h1' : B.a.rt m ≤ q' := by
          by_cases e : m = k
          · subst e; rw [upd_same] at h1; rw [hrt0]; omega
          · rw [upd_ne _ _ _ _ e] at h1; exact h1
        rcases J.key m hm q' h1' h2 with h | h
        · exact .inl h
        · exact .inr (h.keep (fun h => by show gset B.γ _ _ none _ _ = none; rw [hgk _ _ hne]; exact h) (fun b h => ⟨by show gset B.γ _ _ none _ _ = some b; rw [hgk _ _ hne]; exact h, rfl⟩))
      · obtain ⟨h0, hne⟩ := hgs _ _ _ h
        obtain ⟨mn, k1, k2, k3, k4⟩ := J.dom _ _ _ h0
        refine ⟨mn, k1, k2, ?_, k4⟩
        show upd B.a.rt k ((q : Nat) + 1) mn ≤ q'
        by_cases e : mn = k
        · subst e; rw [upd_same]; rw [hrt0] at k3
          have : q' ≠ (q : Nat) := fun e2 => hne ⟨k2, e2⟩
          omega
        · rw [upd_ne _ _ _ _ e]; exact k3
  · rw [if_neg hh] at hrk
    have hva : ¬ (ρ.r k).va = true := by rw [hrk]; simp [ret0]
    refine ⟨⟨J.on, fun h => absurd h hva⟩, ?_⟩
    unfold retM
    rw [if_neg hva]
    refine ⟨⟨J.on.f0, J.on.f1, J.on.f2, J.on.f3⟩, J.sm, J.gr, J.turn, fun m hm => ?_, fun m hm hle => ?_, J.air, J.key, J.dom, J.inj, J.fls⟩
    · show B.a.rt m = _
      rw [J.rt m hm]
      by_cases hb : hands σ.x m = true
      · have : m ≠ k := fun e => by subst e; exact hh hb
        by_cases h9 : m < k
        · rw [if_pos ⟨h9, hb⟩, if_pos ⟨by omega, hb⟩]
        · rw [if_neg (fun h => h9 h.1), if_neg (fun h => h9 (by omega))]
      · rw [if_neg (fun h => hb h.2), if_neg (fun h => hb h.2)]
    · show upd B.a.tk k false m = false
      by_cases e : m = k
      · subst e; exact upd_same _ _ _
      · rw [upd_ne _ _ _ _ e]; exact J.tk m hm (by omega)
end Go.Proofs.Qxb6500750aDoor
