import Derived.Test.Qxb6500749aStb
import Derived.Test.Qxb6500749aStc2
import Derived.Test.Qxb6500749aStd
import Derived.LoopN
namespace Go.Proofs.Qxb6500749a
open Go.RowKit
attribute [local go_sem] put_size put_cell_same put_cell_ne put_frozen_same put_frozen_ne put_setCell_same put_setCell_ne put_drew
attribute [local go_sem] drewN_setCell drewN_alloc drewN_put
/-! ### A step, whatever it is -/
theorem rstep_any (own : Nat → Nat) (L : LY) (R : RG) (hR : ROk R) (hN : R.reps.length < 900000000) (o : OpD) (ho : o.Ok) (w : World) (h : RR own w L R) :
    Calls Try.prog 36 #[.pointer (some ⟨L.rg, 0, none⟩), .agg (opV o)] w fun e' w' => (∃ z, e' = .returned (.bool z)) ∧ ∃ own' L', RR own' w' L' (stpR R o) ∧ Ext own own' (fun k => k ≤ 18) w w' ∧ L'.rg = L.rg := by
  obtain ⟨hk, ha, hb, hc, hd, he⟩ := ho
  obtain ⟨k, a, b, c, d, e⟩ := o
  simp only [] at hk ha hb hc hd he
  unfold opV
  simp only []
  by_cases k0 : k = 0
  · subst k0
    cases hr : R.run
    · by_cases hl : R.prog.length = 64
      · have e1 : stpR R ⟨0, a, b, c, d, e⟩ = R := by unfold stpR; rw [if_pos rfl, if_pos (.inr hl)]
        rw [e1]
        exact st_0b own L R hR hr a b c d e ha hb hc hd he hl w h
      · have e1 : stpR R ⟨0, a, b, c, d, e⟩ = { R with prog := R.prog ++ [a] } := by unfold stpR; rw [if_pos rfl, if_neg (by rw [hr]; simp [hl])]
        rw [e1]
        exact st_0c own L R hR hr a b c d e ha hb hc hd he hl w h
    · have e1 : stpR R ⟨0, a, b, c, d, e⟩ = R := by unfold stpR; rw [if_pos rfl, if_pos (.inl hr)]
      rw [e1]
      exact st_0a own L R hR hr a b c d e ha hb hc hd he w h
  by_cases k1 : k = 1
  · subst k1
    cases hr : R.run
    · cases hm : mapF a
      · have e1 : stpR R ⟨1, a, b, c, d, e⟩ = R := by unfold stpR; rw [if_neg k0, if_pos rfl, if_pos (.inr hm)]
        rw [e1]
        exact st_1b own L R hR hr a b c d e ha hb hc hd he hm w h
      · have e1 : stpR R ⟨1, a, b, c, d, e⟩ = pokR R a b := by unfold stpR; rw [if_neg k0, if_pos rfl, if_neg (by rw [hr]; simp [hm])]
        rw [e1]
        exact st_1c own L R hR hr a b c d e ha hb hc hd he hm w h
    · have e1 : stpR R ⟨1, a, b, c, d, e⟩ = R := by unfold stpR; rw [if_neg k0, if_pos rfl, if_pos (.inl hr)]
      rw [e1]
      exact st_1a own L R hR hr a b c d e ha hb hc hd he w h
  by_cases k2 : k = 2
  · subst k2
    cases hr : R.run
    · by_cases h4 : e ≥ 4
      · have e1 : stpR R ⟨2, a, b, c, d, e⟩ = R := by unfold stpR; rw [if_neg k0, if_neg k1, if_pos rfl, if_pos (.inr h4)]
        rw [e1]
        exact st_2b own L R hR hr a b c d e ha hb hc hd he h4 w h
      · have h4n : ¬ (R.run = true ∨ e ≥ 4) := by rw [hr]; simp [h4]
        cases hcm : cmpS a
        · cases hh : R.ho
          · have e1 : stpR R ⟨2, a, b, c, d, e⟩ = { R with ho := true, fo := ⟨a, b.toNat, c, d, e⟩ } := by
              unfold stpR; rw [if_neg k0, if_neg k1, if_pos rfl, if_neg h4n, if_neg (by simp [hcm]), if_pos ⟨hcm, hh⟩]; rfl
            rw [e1]
            exact st_2e own L R hR hr a b c d e ha hb hc hd he h4 hcm hh w h
          · have e1 : stpR R ⟨2, a, b, c, d, e⟩ = R := by
              unfold stpR; rw [if_neg k0, if_neg k1, if_pos rfl, if_neg h4n, if_neg (by simp [hcm]), if_neg (by simp [hh])]
            rw [e1]
            exact st_2f own L R hR hr a b c d e ha hb hc hd he h4 hcm hh w h
        · cases hh : R.hc
          · have e1 : stpR R ⟨2, a, b, c, d, e⟩ = { R with hc := true, fc := ⟨a, b.toNat, c, d, e⟩ } := by
              unfold stpR; rw [if_neg k0, if_neg k1, if_pos rfl, if_neg h4n, if_pos ⟨hcm, hh⟩]; rfl
            rw [e1]
            exact st_2c own L R hR hr a b c d e ha hb hc hd he h4 hcm hh w h
          · have e1 : stpR R ⟨2, a, b, c, d, e⟩ = R := by
              unfold stpR; rw [if_neg k0, if_neg k1, if_pos rfl, if_neg h4n, if_neg (by simp [hh]), if_neg (by simp [hcm])]
            rw [e1]
            exact st_2d own L R hR hr a b c d e ha hb hc hd he h4 hcm hh w h
    · have e1 : stpR R ⟨2, a, b, c, d, e⟩ = R := by unfold stpR; rw [if_neg k0, if_neg k1, if_pos rfl, if_pos (.inl hr)]
      rw [e1]
      exact st_2a own L R hR hr a b c d e ha hb hc hd he w h
  by_cases k3 : k = 3
  · subst k3
    have e1 : stpR R ⟨3, a, b, c, d, e⟩ = { R with uP := queF R.uP a, uD := queF R.uD a } := by unfold stpR; rw [if_neg k0, if_neg k1, if_neg k2, if_pos rfl]
    rw [e1]
    by_cases hr : R.run = true
    · exact st_3t own L R hR hr a b c d e ha hb hc hd he w h
    · exact st_3f own L R hR (by simpa using hr) a b c d e ha hb hc hd he w h
  by_cases k4 : k = 4
  · subst k4
    by_cases h4 : a > 400
    · have e1 : stpR R ⟨4, a, b, c, d, e⟩ = R := by unfold stpR; rw [if_neg k0, if_neg k1, if_neg k2, if_neg k3, if_pos rfl, if_pos h4]
      rw [e1]
      cases hr : R.run
      · exact st_4af own L R hR hr a b c d e ha hb hc hd he h4 w h
      · exact st_4at own L R hR hr a b c d e ha hb hc hd he h4 w h
    · have e1 : stpR R ⟨4, a, b, c, d, e⟩ = cycN a.toNat R := by unfold stpR; rw [if_neg k0, if_neg k1, if_neg k2, if_neg k3, if_pos rfl, if_neg h4]
      rw [e1]
      cases hr : R.run
      · exact st_4bf own L R hR hr a b c d e ha hb hc hd he h4 hN w h
      · exact st_4bt own L R hR hr a b c d e ha hb hc hd he h4 hN w h
  by_cases k5 : k = 5
  · subst k5
    cases hr : R.run
    · cases hm : mapF a
      · have e1 : stpR R ⟨5, a, b, c, d, e⟩ = R := by unfold stpR; rw [if_neg k0, if_neg k1, if_neg k2, if_neg k3, if_neg k4, if_pos rfl, if_pos (.inr (.inl hm))]
        rw [e1]
        exact st_5b own L R hR hr a b c d e ha hb hc hd he hm w h
      · cases hm2 : mapF ((a + 12) % 4294967296)
        · have e1 : stpR R ⟨5, a, b, c, d, e⟩ = R := by unfold stpR; rw [if_neg k0, if_neg k1, if_neg k2, if_neg k3, if_neg k4, if_pos rfl, if_pos (.inr (.inr hm2))]
          rw [e1]
          exact st_5c own L R hR hr a b c d e ha hb hc hd he hm hm2 w h
        · have e1 : stpR R ⟨5, a, b, c, d, e⟩ = descR R a b c d e := by unfold stpR; rw [if_neg k0, if_neg k1, if_neg k2, if_neg k3, if_neg k4, if_pos rfl, if_neg (by rw [hr]; simp [hm, hm2])]
          rw [e1]
          exact st_5d own L R hR hr a b c d e ha hb hc hd he hm hm2 w h
    · have e1 : stpR R ⟨5, a, b, c, d, e⟩ = R := by unfold stpR; rw [if_neg k0, if_neg k1, if_neg k2, if_neg k3, if_neg k4, if_pos rfl, if_pos (.inl hr)]
      rw [e1]
      exact st_5a own L R hR hr a b c d e ha hb hc hd he w h
  · have e1 : stpR R ⟨k, a, b, c, d, e⟩ = R := by unfold stpR; rw [if_neg k0, if_neg k1, if_neg k2, if_neg k3, if_neg k4, if_neg k5]
    rw [e1]
    cases hr : R.run
    · exact st_6f own L R hR hr a b c d e ha hb hc hd he k (by omega) w h
    · exact st_6t own L R hR hr a b c d e ha hb hc hd he k (by omega) w h
/-! ### The invariant through the steps -/
theorem BOk.poke {N : Nat} {U : BusD} (h : BOk N U) (a d : Int) (hd : W32 d) : BOk N (pokF U a d) := by
  unfold pokF
  split
  · exact ⟨h.lat, h.llen, h.left, h.busy, fun x => w32_ite hd (h.mem x), h.glen, h.lr⟩
  · exact h
theorem BOk.que {N : Nat} {U : BusD} (h : BOk N U) (l : Int) (hl : W32 l) : BOk N (queF U l) := by
  unfold queF
  split
  · rename_i q
    unfold queB at q
    simp only [Bool.and_eq_true, Bool.not_eq_true', decide_eq_false_iff_not] at q
    refine ⟨fun x hx => ?_, ?_, h.left, h.busy, h.mem, h.glen, h.lr⟩
    · rcases List.mem_append.1 hx with z | z
      · exact h.lat x z
      · simp at z; subst z; have := hl.1; omega
    · have := q.2
      show (U.lat ++ [l]).length ≤ 16
      simp; omega
  · exact h
theorem ROk.poke {R : RG} (h : ROk R) (a d : Int) (hd : W32 d) : ROk (pokR R a d) :=
  ⟨h.plen, h.pw, h.uP.poke a d hd, h.uD.poke a d hd, h.fc, h.fo, h.desc, h.BP, h.BM, h.DM, h.reps0⟩
theorem cycR_len (R : RG) : (cycR R).reps.length = R.reps.length + 1 := by
  show ((if R.run = true then R else strR R).reps ++ [_]).length = _
  have : (if R.run = true then R else strR R).reps = R.reps := by split <;> rfl
  rw [this]; simp
theorem ROk.cycN : ∀ (n : Nat) {R : RG}, ROk R → ROk (cycN n R) ∧ (Go.Proofs.Qxb6500749a.cycN n R).reps.length = R.reps.length + n
  | 0, _, h => ⟨h, rfl⟩
  | n + 1, R, h => by
    have := ROk.cycN n h.cyc
    refine ⟨this.1, ?_⟩
    show (Go.Proofs.Qxb6500749a.cycN n (cycR R)).reps.length = _
    rw [this.2, cycR_len]; omega
theorem fdO_ok (o : OpD) (ho : o.Ok) (h4 : ¬ o.e ≥ 4) : (fdO o).Ok := ⟨ho.a, by show o.b.toNat < 4294967296; have := ho.b.1; have := ho.b.2; omega, ho.c, ho.d, ⟨ho.e.1, by show o.e < 4; omega⟩⟩
theorem ROk.stp {R : RG} (h : ROk R) (o : OpD) (ho : o.Ok) : ROk (stpR R o) ∧ R.reps.length ≤ (stpR R o).reps.length ∧ (stpR R o).reps.length ≤ R.reps.length + 400 := by
  unfold stpR
  split
  · split
    · exact ⟨h, Nat.le_refl _, by omega⟩
    · rename_i q
      refine ⟨⟨?_, ?_, h.uP, h.uD, h.fc, h.fo, h.desc, h.BP, h.BM, h.DM, h.reps0⟩, Nat.le_refl _, Nat.le_add_right _ _⟩
      · show (R.prog ++ [o.a]).length ≤ 64
        have h1 : R.prog.length ≠ 64 := fun e => q (.inr e)
        have h2 := h.plen
        simp; omega
      · intro x hx
        rcases List.mem_append.1 hx with z | z
        · exact h.pw x z
        · simp at z; subst z; exact ho.a
  · split
    · split
      · exact ⟨h, Nat.le_refl _, by omega⟩
      · exact ⟨h.poke _ _ ho.b, Nat.le_refl _, Nat.le_add_right _ _⟩
    · split
      · split
        · exact ⟨h, Nat.le_refl _, by omega⟩
        · rename_i q
          have h4 : ¬ o.e ≥ 4 := fun e => q (.inr e)
          split
          · exact ⟨⟨h.plen, h.pw, h.uP, h.uD, fdO_ok o ho h4, h.fo, h.desc, h.BP, h.BM, h.DM, h.reps0⟩, Nat.le_refl _, Nat.le_add_right _ _⟩
          · split
            · exact ⟨⟨h.plen, h.pw, h.uP, h.uD, h.fc, fdO_ok o ho h4, h.desc, h.BP, h.BM, h.DM, h.reps0⟩, Nat.le_refl _, Nat.le_add_right _ _⟩
            · exact ⟨h, Nat.le_refl _, by omega⟩
      · split
        · exact ⟨⟨h.plen, h.pw, h.uP.que _ ho.a, h.uD.que _ ho.a, h.fc, h.fo, h.desc, h.BP, h.BM, h.DM, h.reps0⟩, Nat.le_refl _, Nat.le_add_right _ _⟩
        · split
          · split
            · exact ⟨h, Nat.le_refl _, by omega⟩
            · rename_i q
              have := ROk.cycN o.a.toNat h
              refine ⟨this.1, ?_, ?_⟩
              · rw [this.2]; omega
              · rw [this.2]; omega
          · split
            · split
              · exact ⟨h, Nat.le_refl _, by omega⟩
              · have h4 := (((h.poke o.a o.b ho.b).poke (o.a + 4) o.c ho.c).poke (o.a + 8) o.d ho.d).poke (o.a + 12) ((crcF o.b o.c o.d + o.e) % 4294967296) (W32.emod _)
                exact ⟨⟨h4.plen, h4.pw, h4.uP, h4.uD, h4.fc, h4.fo, ho.a, h4.BP, h4.BM, h4.DM, h4.reps0⟩, Nat.le_refl _, Nat.le_add_right _ _⟩
            · exact ⟨h, Nat.le_refl _, by omega⟩
end Go.Proofs.Qxb6500749a
