import Derived.Test.Qxb6500750aDoorJnt
namespace Go.Proofs.Qxb6500750aDoor
open Go.RowKit
/-! ### The books and the crossbar side by side, between steps -/
structure JI (σ : SS) (B : BK) (acc : Nat → List Req) : Prop where
  on : AllOn B.a
  iss : ∀ m, m < 3 → (σ.x.mp m).iss = ((acc m).length : Nat)
  gr : ∀ m, m < 3 → B.a.gr m = (σ.x.mp m).gr
  rt : ∀ m, m < 3 → B.a.rt m = (σ.x.mp m).rt
  tk : ∀ m, m < 3 → B.a.tk m = (σ.x.mp m).tk
  ba : ∀ m, m < 3 → B.a.ba m = (σ.x.mp m).iso
  turn : ∀ t, t < 7 → B.a.turn t = (σ.x.tp t).turn
  cut : ∀ t, t < 7 → B.a.cut t = (σ.x.tp t).iso
  isoW : ∀ m, m < 3 → (σ.x.mp m).iso = true → (σ.x.mp m).gr = (σ.x.mp m).iss
  req : ∀ m, m < 3 → ∀ q : Nat, (σ.x.mp m).rt ≤ (q : Nat) → ((q : Nat) : Int) < (σ.x.mp m).iss → (acc m)[q]? = some (slq σ.x m (q : Nat)).req
  rv : ∀ m, m < 3 → ∀ q, (σ.x.mp m).rt ≤ q → q < (σ.x.mp m).iss → (slq σ.x m q).ret.va = true ∧ (slq σ.x m q).ret.sq = q
  wt : ∀ m, m < 3 → ∀ q, (σ.x.mp m).gr ≤ q → q < (σ.x.mp m).iss → (slq σ.x m q).ret.da = 0 ∧ (slq σ.x m q).ret.re = 0 ∧ (slq σ.x m q).ret.ca = 0
  air : ∀ t, t < 7 → flying σ.x t → AirOK σ.x (σ.p t) t B
  key : ∀ m, m < 3 → ∀ q, (σ.x.mp m).rt ≤ q → q < (σ.x.mp m).gr → (∃ τ, τ < 7 ∧ serves σ.x τ m q) ∨ LandOK (slq σ.x m q) B m q
  dom : ∀ m q b, B.γ m q = some b → ∃ mn : Nat, mn < 3 ∧ m = (mn : Nat) ∧ (σ.x.mp mn).rt ≤ q ∧ q < (σ.x.mp mn).gr
  inj : ∀ m q m' q' b, B.γ m q = some b → B.γ m' q' = some b → m = m' ∧ q = q'
  fls : ∀ m q b, B.γ m q = some b → B.fl b ≠ none
theorem JI.wants {N : Int} {A : Nat} {σ : SS} {B : BK} {acc : Nat → List Req} (J : JI σ B acc) (hi : XInv N A σ) (t m : Nat) (hm : m < 3) : wantsB B.a.gr acc B.a.cut t m = wantsF σ.x t m := by
  unfold wantsB wantsF
  obtain ⟨c1, c2, c3, c4, c5⟩ := hi.cnt m hm
  have hiss := J.iss m hm
  obtain ⟨n, hn⟩ := Int.eq_ofNat_of_zero_le (show 0 ≤ (σ.x.mp m).gr by omega)
  rw [J.gr m hm, hn, Int.toNat_natCast]
  by_cases h : n < (acc m).length
  · have hq := J.req m hm n (by rw [← hn]; exact c2) (by rw [hiss]; omega)
    have hne : (((n : Nat) : Int) == (σ.x.mp m).iss) = false := by rw [hiss]; simp; omega
    have hr : (reqG σ.x m) = (slq σ.x m (n : Nat)).req := by unfold reqG slq; rw [hn]
    rw [hq, decide_eq_true h, hne, hr]
    simp only [Option.getD_some, Bool.not_false, Bool.true_and]
    congr 1
    unfold bTo rtAt
    rw [J.cut _ (by have := dec_le (slq σ.x m (n : Nat)).req.ad; omega)]
  · have he : (((n : Nat) : Int) == (σ.x.mp m).iss) = true := by
      rw [hiss]; rw [hn, hiss] at c3
      have c3 : ((n : Nat) : Int) ≤ _ := c3
      simp; omega
    rw [decide_eq_false h, he]; rfl
theorem JI.start {N p : Int} {σ σ1 σ2 : SS} {ρ1 ρ : RepD} (T : TF N p σ σ1 σ2 ρ1 ρ) {B : BK} {acc : Nat → List Req} (J : JI σ B acc) : JT σ σ1 σ2 ρ B.a 0 false B := by
  obtain ⟨A, hi⟩ := T.inv
  refine ⟨J.on, ⟨rfl, rfl, rfl, rfl, rfl, rfl, rfl⟩, fun m hm _ => J.gr m hm, fun _ _ τ hτ _ => absurd hτ (by omega), fun τ h7 _ => J.turn τ h7, fun τ hτ => absurd hτ (by omega), fun τ h7 _ _ hf => J.air τ h7 hf, fun h => (by cases h), fun τ hτ => absurd hτ (by omega), fun m hm q h1 h2 => ?_, fun m q b h => ?_, J.inj, J.fls⟩
  · rw [J.gr m hm] at h2
    have hc := hi.cnt m hm
    by_cases hs : ∃ τ, τ < 7 ∧ serves σ.x τ m q
    · obtain ⟨τ, h7, hs⟩ := hs
      exact .inl ⟨τ, h7, by omega, fun h => (by cases h), hs⟩
    · rcases J.key m hm q h1 h2 with h | h
      · exact absurd h hs
      · refine .inr (.inr (.inr ?_))
        rw [T.sl12 hm h1 h2, T.sl01 hm h1 (by omega) (fun τ h7 h => hs ⟨τ, h7, h⟩)]
        exact h
  · obtain ⟨mn, k1, k2, k3, k4⟩ := J.dom m q b h
    exact ⟨mn, k1, k2, k3, by rw [J.gr mn k1]; exact k4⟩
theorem wv_congr {f g : Nat → Bool} (h : ∀ m, m < 3 → f m = g m) : wv f = wv g := by
  unfold wv; rw [h 0 (by decide), h 1 (by decide), h 2 (by decide)]
theorem cho_congr {f g : Nat → Bool} (h : ∀ m, m < 3 → f m = g m) (pick turn : Nat) (ht : turn < 3) : cho f pick turn = cho g pick turn := by
  unfold cho
  rw [h turn ht, h ((turn + 1) % 3) (Nat.mod_lt _ (by decide))]
  by_cases hp : pick < 3
  · rw [h pick hp]
  · rw [if_neg (fun e : pick < 3 ∧ f pick = true => hp e.1), if_neg (fun e : pick < 3 ∧ g pick = true => hp e.1)]
theorem wantsF_iso {x : XS} {t m : Nat} (h : wantsF x t m = true) (ht : t < 6) : (x.tp t).iso = false := by
  unfold wantsF rtAt at h
  simp only [Bool.and_eq_true, beq_iff_eq] at h
  have h2 := h.2
  split at h2
  · omega
  · rename_i hn
    rw [← h2]
    cases hc : (x.tp (dec (reqG x m).ad)).iso
    · rfl
    · exact absurd (.inr hc) hn
theorem TF.wants {N p : Int} {σ σ1 σ2 : SS} {ρ1 ρ : RepD} (T : TF N p σ σ1 σ2 ρ1 ρ) (t m : Nat) (hm : m < 3) : wantsF σ1.x t m = wantsF σ.x t m := by
  obtain ⟨A, hi⟩ := T.inv
  obtain ⟨y1, y2, _⟩ := T.col.mp m
  have hc := hi.cnt m hm
  unfold wantsF
  simp only [] at y1 y2
  rw [y1, y2]
  by_cases h : (σ.x.mp m).gr = (σ.x.mp m).iss
  · have : ((σ.x.mp m).gr == (σ.x.mp m).iss) = true := by simpa using h
    rw [this]; rfl
  · have hs := T.sl01 hm (q := (σ.x.mp m).gr) (by omega) (by omega) (fun τ hτ hs => by
      obtain ⟨_, g2, _⟩ := hi.fly τ hτ hs.1
      rw [hs.2.1, hs.2.2] at g2; omega)
    have hr : reqG σ1.x m = reqG σ.x m := by unfold slq at hs; unfold reqG; rw [y2, hs]
    rw [hr]
    congr 2
    unfold rtAt
    rw [(T.col.row _).2.2.2]
theorem JT.roundOK {N p : Int} {σ σ1 σ2 : SS} {ρ1 ρ : RepD} (T : TF N p σ σ1 σ2 ρ1 ρ) {B0 : BK} {acc : Nat → List Req} (J0 : JI σ B0 acc) (hlen : ∀ t, t < 6 → (σ2.p t).atts.length < 1000000000) (hacc : ∀ m, m < 3 → (acc m).length < 4000000)
    {t : Nat} (ht : t < 7) {B : BK} (J : JT σ σ1 σ2 ρ B0.a t false B) : RoundOK ρ σ2.p acc (wantsB B0.a.gr acc B0.a.cut) p (fun s => ((σ.p s).atts.length : Nat)) t B := by
  obtain ⟨A, hi⟩ := T.inv
  obtain ⟨A1, hi1⟩ := T.inv1
  obtain ⟨A2, hi2⟩ := T.inv2
  obtain ⟨s1, s2, s3, s4, s5, s6, s7⟩ := J.sm
  have hC := T.outC ht
  have hAo := T.outA ht
  have hW : ∀ m, m < 3 → wantsB B0.a.gr acc B0.a.cut t m = wantsF σ1.x t m := fun m hm => by rw [J0.wants hi t m hm, T.wants t m hm]
  have hcut : B.a.cut t = (σ.x.tp t).iso := by rw [s6]; exact J0.cut t ht
  have hrow := T.col.row t
  have hturn : (σ1.x.tp t).turn = (σ.x.tp t).turn := hrow.2.2.1
  have hiso1 : (σ1.x.tp t).iso = (σ.x.tp t).iso := hrow.2.2.2
  have htr := hi.turn t ht
  have hba : ∀ m, m < 3 → B.a.ba m = (σ.x.mp m).iso := fun m hm => by rw [s5]; exact J0.ba m hm
  -- the grant, if there is one
  have hgrant : ∀ m : Nat, ρ.g t = (m : Nat) → m < 3 ∧ wantsF σ1.x t m = true ∧ (σ1.x.tp t).busy = false := fun m hg => by
    refine ⟨?_, hAo.wants (by rw [hturn]; exact htr) hg, ?_⟩
    · rcases hAo with ⟨e, _⟩ | ⟨m', h3, e, _⟩
      · rw [e] at hg; omega
      · rw [e] at hg; omega
    · rcases hAo with ⟨e, _⟩ | ⟨m', h3, e, hb, _⟩
      · rw [e] at hg; omega
      · exact hb
  refine ⟨J.on, fun h6 => ?_, fun hrs => ?_, fun hrp => ?_, ?_, fun hg => ?_⟩
  · -- lengths
    have h1 : ((σ1.p t).atts.length : Int) = (σ.p t).atts.length + (if ρ.rs t = true then 1 else 0) := by
      rcases hC with ⟨_, h1, _, ha, _⟩ | ⟨_, _, h1, _, ha, _⟩ | ⟨_, _, h1, _, _, _, _, pl, _, ha⟩ | ⟨_, h1, _, ha, _⟩
      · rw [h1, ha]; simp
      · rw [h1, ha]; simp
      · rw [h1, ha]; simp
      · rw [h1, ha]; simp
    have h2 : ((σ2.p t).atts.length : Int) = (σ1.p t).atts.length + (if ρ.g t = -1 then 0 else 1) := by
      rcases hAo with ⟨e, _, e2, _⟩ | ⟨m, h3, e, _, _, _, _, _, ha⟩
      · rw [e, e2]; simp
      · obtain ⟨pl, _, ha⟩ := ha h6
        rw [if_neg (by rw [e]; omega), ha]; simp
    have hboth : ρ.rs t = true → ρ.g t = -1 := fun hrs => by
      rcases hC with ⟨_, h1, _⟩ | ⟨_, _, h1, _⟩ | ⟨hf, _, _, _, hr, _⟩ | ⟨_, h1, _⟩
      · rw [hrs] at h1; cases h1
      · rw [hrs] at h1; cases h1
      · rcases hAo with ⟨e, _⟩ | ⟨_, _, _, hb, _⟩
        · exact e
        · rw [hr, hf.1] at hb; cases hb
      · rw [hrs] at h1; cases h1
    refine ⟨?_, ?_, fun hc => ?_, hlen t h6, by omega⟩
    · unfold due; omega
    · unfold due
      cases hrs : ρ.rs t
      · simp only [Bool.false_eq_true, if_false]; split <;> omega
      · rw [hboth hrs]; simp
    · rw [hcut] at hc
      have e1 : ρ.rs t = false := by
        rcases hC with ⟨_, h1, _⟩ | ⟨_, _, h1, _⟩ | ⟨_, _, _, _, _, ⟨_, _, _, _, hi', _⟩, _⟩ | ⟨_, h1, _⟩
        · exact h1
        · exact h1
        · rw [hc] at hi'; cases hi'
        · exact h1
      have e2 : ρ.g t = -1 := by
        rcases hAo with ⟨e, _⟩ | ⟨m, h3, e, _⟩
        · exact e
        · have := wantsF_iso (hgrant m e).2.1 h6
          rw [hiso1, hc] at this; cases this
      unfold due; rw [e1, e2]; rfl
  · -- sent again
    rcases hC with ⟨_, h1, _⟩ | ⟨_, _, h1, _⟩ | ⟨hf, h6, _, h2, hr, ⟨l, hl, hm1, hre, _, him⟩, hs, pl, hpl, ha⟩ | ⟨_, h1, _⟩
    · rw [hrs] at h1; cases h1
    · rw [hrs] at h1; cases h1
    · obtain ⟨b, f, hp, hfb, hg, F⟩ := J.air0 t ht (Nat.le_refl _) (fun h => by cases h) hf
      have hq2 : ρ.g t = -1 ∧ σ2.p t = σ1.p t := by
        rcases hAo with ⟨e, _, e2, _⟩ | ⟨_, _, _, hb, _⟩
        · exact ⟨e, e2⟩
        · rw [hr, hf.1] at hb; cases hb
      obtain ⟨la1, la2, la3⟩ := lastA_concat ha
      obtain ⟨l', hl', hla⟩ := F.la h6
      rw [hl] at hl'; cases hl'
      have hn3 : f.n ≤ 3 := by rw [F.en]; omega
      have hmr : repB f = true := by rw [repB_mayRep, F.ew, hla]; exact hm1
      rw [hq2.2]
      refine ⟨h6, h2, hq2.1, la3, by rw [la2]; exact hpl, b, f, hp, hfb, F.et, hmr, ⟨mo σ.x t, mo_lt hi ht, F.em, ?_⟩, ⟨by have := F.n4; omega, hn3⟩, ⟨F.ac.1, by have := F.ac; omega⟩, fun hw => ?_⟩
      · rw [hba _ (mo_lt hi ht)]; exact him
      · rw [la2]
        show (if actB pl.o = true then f.ac + 1 else f.ac) ≤ 1
        have hla2 : f.la = 2 := by
          rw [repB_mayRep] at hmr
          unfold mayRep at hmr
          rw [hw] at hmr
          simpa using hmr
        have := (F.acw hw).2 hla2
        split <;> omega
    · rw [hrs] at h1; cases h1
  · -- given up
    rcases hC with ⟨_, _, h2, _⟩ | ⟨_, _, _, h2, _⟩ | ⟨_, _, _, h2, _⟩ | ⟨hf, h1, hr, ha, st, da, ca, hs, hrp', hcase⟩
    · rw [hrp] at h2; cases h2
    · rw [hrp] at h2; cases h2
    · rw [hrp] at h2; cases h2
    · rw [hrp] at hrp'
      have hst3 : st = 3 := by simpa using hrp'.symm
      rcases hcase with ⟨h6, ⟨l, hl, hca⟩, hst, hno⟩ | ⟨_, hst, _⟩
      · obtain ⟨b, f, hp, hfb, hg, F⟩ := J.air0 t ht (Nat.le_refl _) (fun h => by cases h) hf
        obtain ⟨l', hl', hla⟩ := F.la h6
        rw [hl] at hl'; cases hl'
        have hlac : f.la = ca := by rw [hla, hca]
        refine ⟨h6, h1, b, f, hp, hfb, ⟨mo σ.x t, mo_lt hi ht, F.em, fun k1 k2 k3 => ?_⟩, ?_, ?_⟩
        · rw [hba _ (mo_lt hi ht)]
          cases hc : (σ.x.mp (mo σ.x t)).iso
          · exfalso
            refine hno ⟨?_, ?_, ?_, hc⟩
            · rw [repB_mayRep, F.ew, hlac] at k1; exact k1
            · rw [F.en] at k2; omega
            · rw [← hcut]; exact k3
          · rfl
        · intro e; rw [hlac] at e; rw [e, if_pos rfl] at hst; omega
        · intro e; rw [hlac] at e; rw [e, if_neg (by decide), if_pos rfl] at hst; omega
      · omega
  · -- the grant
    rcases hAo with ⟨e, _⟩ | ⟨m, h3, e, hb, hwv, hch, hgi, hr, ha⟩
    · exact .inl e
    · right
      obtain ⟨ρ2, hAI, hge, _⟩ := T.arb
      have huniq : ∀ τ, τ < 7 → ρ.g τ = (m : Nat) → τ = t := fun τ hτ h => by
        have e' := e
        rw [hge] at e' h
        rcases hAI.mp m h3 with ⟨_, hn⟩ | ⟨_, t', _, _, hu⟩
        · exact absurd e' (hn t ht)
        · rw [hu τ hτ h, hu t ht e']
      obtain ⟨y1, y2, _⟩ := T.col.mp m
      simp only [] at y1 y2
      have hgm : B.a.gr m = (σ.x.mp m).gr := J.gr1 m h3 (fun τ hτ h => by have := huniq τ (by omega) h; omega)
      have hc := hi.cnt m h3
      have hlt : (σ.x.mp m).gr < (σ.x.mp m).iss := by rw [y1, y2] at hgi; omega
      obtain ⟨n, hn⟩ := Int.eq_ofNat_of_zero_le (show 0 ≤ (σ.x.mp m).gr by omega)
      have hn' : (σ.x.mp m).gr = ((n : Nat) : Int) := hn
      have hs1 : slq σ1.x m (σ.x.mp m).gr = slq σ.x m (σ.x.mp m).gr := T.sl01 h3 (by omega) (by omega) (fun τ hτ hs => by
        obtain ⟨_, g2, _⟩ := hi.fly τ hτ hs.1
        rw [hs.2.1, hs.2.2] at g2; omega)
      have hrq := J0.req m h3 n (by rw [← hn']; exact hc.2.1) (by rw [← hn']; exact hlt)
      obtain ⟨tu, htu⟩ := Int.eq_ofNat_of_zero_le htr.1
      have htu' : (σ.x.tp t).turn = ((tu : Nat) : Int) := htu
      have htu3 : tu < 3 := by rw [htu'] at htr; omega
      refine ⟨m, n, tu, (slq σ.x m (n : Nat)).req, e, h3, htu3, ?_, ?_, ?_, ?_, ?_, hrq, hacc m h3, ?_, fun h6 => ?_⟩
      · rw [wv_congr hW]; exact hwv
      · rw [cho_congr hW _ _ htu3]
        rw [hturn, htu', Int.toNat_natCast] at hch; exact hch
      · rw [J.turn0 t ht (Nat.le_refl _)]; exact htu'
      · rw [hba m h3]
        cases hc' : (σ.x.mp m).iso
        · rfl
        · have := J0.isoW m h3 hc'; omega
      · rw [hgm]; exact hn'
      · cases hγ : B.γ (m : Nat) (n : Nat) with
        | none => rfl
        | some b =>
          obtain ⟨mn, _, e2, _, h9⟩ := J.dom _ _ _ hγ
          have : mn = m := by omega
          subst this
          rw [hgm, hn'] at h9; omega
      · obtain ⟨pl, hpl, hat⟩ := ha h6
        obtain ⟨la1, la2, la3⟩ := lastA_concat hat
        refine ⟨la3, by rw [la2]; exact hpl, ?_⟩
        rw [la2, y2, hs1, hn']
  · -- nothing granted
    rw [wv_congr hW]
    rcases hAo with ⟨_, hr, hq, h | h⟩ | ⟨m, h3, e, _⟩
    · right
      have h6 : t < 6 := by
        by_cases h6 : t < 6
        · exact h6
        · have : t = 6 := by omega
          subst this
          rw [T.six] at h; cases h
      refine ⟨h6, ?_⟩
      rw [← hi2.busy t h6, hr]; exact h
    · exact .inl h
    · rw [e] at hg; omega
end Go.Proofs.Qxb6500750aDoor
