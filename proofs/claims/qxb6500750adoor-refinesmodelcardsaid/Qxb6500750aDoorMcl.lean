import Derived.Test.Qxb6500750aDoorMr3
namespace Go.Proofs.Qxb6500750aDoor
open Go.RowKit
/-! ### Data is nought till the landing -/
theorem slq_col {N : Int} {A : Nat} {c : SS × RepD} (hX : XInv N A c.1) {t : Nat} (ht : t < 7) {m : Nat} (hm : m < 3) {q : Int} (h1 : (c.1.x.mp m).rt ≤ q) (h2 : q < (c.1.x.mp m).iss)
    (hne : ¬ (flying c.1.x t ∧ m = mo c.1.x t ∧ q = (c.1.x.tp t).sq)) : slq (collectT t c).1.x m q = slq c.1.x m q := by
  obtain ⟨b1, b2, b3, b4, b5, b6⟩ := collectT_else t c
  unfold slq
  refine b2 m _ ?_
  rintro ⟨q1, q2, q3⟩
  refine hne ⟨q1, q2.symm, ?_⟩
  obtain ⟨f1, f2, _⟩ := hX.fly t ht q1
  rw [q2] at f1 f2
  obtain ⟨c1, c2, c3, c4, c5⟩ := hX.cnt m hm
  exact (window c1 f1 (by omega) h1 (by omega) q3).symm
theorem Clean.collectT {N : Int} {A : Nat} {c : SS × RepD} (hX : XInv N A c.1) (hC : Clean c.1.x) {t : Nat} (ht : t < 7) (hrs : c.2.rs t = false) (hrp : c.2.rp t = false) : Clean (collectT t c).1.x := by
  obtain ⟨b1, b2, b3, b4, b5, b6⟩ := collectT_else t c
  obtain ⟨o1, o2, o3, o4, o5⟩ := collectT_loc (c := c) (t := t) hrs hrp
  refine ⟨fun τ hτ hf => ?_, fun m hm q h1 h2 => ?_⟩
  · by_cases e : τ = t
    · subst e
      unfold flying at hf
      rw [o1] at hf
      rw [o3]
      unfold colL at hf ⊢
      by_cases hb : (c.1.x.tp τ).busy = false
      · rw [if_pos hb] at hf; rw [hb] at hf; cases hf.1
      rw [if_neg hb] at hf ⊢
      by_cases hw : τ < 6 ∧ tickEnds (c.1.p τ) = false
      · rw [if_pos hw] at hf ⊢
        exact hC.1 τ hτ hf
      rw [if_neg hw] at hf ⊢
      by_cases ho : (c.1.x.tp τ).orph = true
      · rw [if_pos ho] at hf; cases hf.1
      rw [if_neg ho] at hf ⊢
      have hfl : flying c.1.x τ := ⟨by simpa using hb, by simpa using ho⟩
      by_cases ha : againL (c.1.x.tp τ) (slotOf c.1.x τ) (c.1.x.mp (mo c.1.x τ)).iso (pC τ (c.1.p τ)) = true
      · rw [if_pos ha]
        exact hC.1 τ hτ hfl
      · rw [if_neg ha] at hf; cases hf.1
    · obtain ⟨x1, x2, _⟩ := b1 τ e
      have hfl : flying c.1.x τ := by unfold flying at hf ⊢; rw [x1] at hf; exact hf
      have hs : slotOf (Go.Proofs.Qxb6500750aDoor.collectT t c).1.x τ = slotOf c.1.x τ := by
        unfold slotOf
        rw [x1]
        refine b2 _ _ ?_
        rintro ⟨q1, q2, q3⟩
        exact hX.apart ht hτ q1 hfl (Ne.symm e) ⟨q2, q3⟩
      rw [hs]; exact hC.1 τ hτ hfl
  · rw [(b3 m).2.1] at h1
    rw [(b3 m).1] at h2
    have hc := hX.cnt m hm
    rw [slq_col hX ht hm (by omega) h2]
    · exact hC.2 m hm q h1 h2
    · rintro ⟨hf, rfl, rfl⟩
      have := (hX.fly t ht hf).2.1
      omega
theorem Clean.collectN {N : Int} {A : Nat} {σ : SS} (hX : XInv N A σ) (hC : Clean σ.x) : ∀ k, k ≤ 7 → Clean (collectN k (σ, rep0)).1.x
  | 0, _ => hC
  | k + 1, hk => by
    have ih := Clean.collectN hX hC k (by omega)
    have hI := colI hX rep0 (fun _ => ⟨rfl, rfl⟩) k (by omega)
    exact Clean.collectT (hX.collectN rep0 k (by omega)) ih (by omega) (hI.far k (Nat.le_refl _)).2.2.1 (hI.far k (Nat.le_refl _)).2.2.2
/-! ### The first loop of the machine's tick -/
/-- What the first loop keeps. -/
def L1 (own : Nat → Nat) (W0 : World) (mb rb : Nat) (tb : Nat → Int → Nat) (σ : SS) (k : Nat) (wr : World) : Prop :=
  ∃ own' M', MR own' wr mb M' tb (collectN k (σ, rep0)).1 ∧ Blk wr rb (encR (collectN k (σ, rep0)).2) 41 ∧ own' rb = 49 ∧ Ext own own' (fun k => SM k ∨ k = 49) W0 wr
theorem SR_SM {t k : Nat} (ht : t < 7) (h : SR t k) : SM k ∨ k = 49 := by unfold SR at h; unfold SM; omega
theorem L1.step {N : Int} {A : Nat} {σ : SS} (hX : XInv N A σ) (hC : Clean σ.x) (hA : A + 14 < 1000000000) {own : Nat → Nat} {W0 wr : World} {mb rb k : Nat} {tb : Nat → Int → Nat} (hk : k < 7) (h : L1 own W0 mb rb tb σ k wr) :
    ∃ M' : MA, Blk wr mb (encM M') 104 ∧ (((M'.tg k).sv = .pointer none ∧ L1 own W0 mb rb tb σ (k + 1) wr) ∨
      ∃ b : Nat, (M'.tg k).sv = .pointer (some ⟨b, 0, none⟩) ∧ 1 ≤ (M'.tg k).lf ∧ (M'.tg k).lf ≤ 64 ∧
        (((M'.tg k).lf - 1 ≠ 0 ∧ L1 own W0 mb rb tb σ (k + 1) (put wr mb (encM { M' with tg := upd M'.tg k { M'.tg k with lf := (M'.tg k).lf - 1 } }) 104)) ∨
         ((M'.tg k).lf - 1 = 0 ∧ Calls Tryd.prog 52 #[.pointer (some ⟨mb, 0, none⟩), .int .i64 (k : Nat), .pointer (some ⟨rb, 0, none⟩)] (put wr mb (encM { M' with tg := upd M'.tg k { M'.tg k with lf := (M'.tg k).lf - 1 } }) 104) fun e w' => e = .returned (.tuple #[]) ∧ L1 own W0 mb rb tb σ (k + 1) w'))) := by
  obtain ⟨own', M, hM, hR, ho, hE⟩ := h
  have hXk := hX.collectN rep0 k (by omega)
  have hCk := Clean.collectN hX hC k (by omega)
  have hI := colI hX rep0 (fun _ => ⟨rfl, rfl⟩) k (by omega)
  have hrs : (collectN k (σ, rep0)).2.rs k = false := (hI.far k (Nat.le_refl _)).2.2.1
  have hrp : (collectN k (σ, rep0)).2.rp k = false := (hI.far k (Nat.le_refl _)).2.2.2
  have hnx : collectN (k + 1) (σ, rep0) = collectT k (collectN k (σ, rep0)) := rfl
  unfold L1
  rw [hnx]
  generalize collectN k (σ, rep0) = c at *
  refine ⟨M, hM.blk, ?_⟩
  have kt := hM.tgt k hk
  have hrm : rb ≠ mb := fun e => by rw [e, hM.omb] at ho; omega
  cases hb : (c.1.x.tp k).busy
  · obtain ⟨h1, h2⟩ := hM.colIdle hb
    exact .inl ⟨kt.free hb, own', M, h1, by rw [h2]; exact hR, ho, hE⟩
  right
  obtain ⟨l1, l2, l3⟩ := kt.left hb
  have hlf : 1 ≤ (M.tg k).lf ∧ (M.tg k).lf ≤ 64 ∧ ((M.tg k).lf - 1 = 0 ↔ (k < 6 → tickEnds (c.1.p k) = true)) := by
    by_cases h6 : k < 6
    · rw [if_pos h6] at l1
      have hpb : (c.1.p k).busy = true := (hXk.busy k h6).symm.trans hb
      obtain ⟨w0, w1, lt, _, hd, hr, hw, hpo⟩ := (hXk.port k h6).pend hpb
      have hle := sendDue_le lt.p hpo
      have h9 := (left_ends (hXk.port k h6) hpb).1
      rw [← l1] at h9
      refine ⟨?_, ?_, h9.trans ⟨fun q _ => q, fun q => q h6⟩⟩
      · rw [l1]; split <;> omega
      · rw [l1]; split <;> omega
    · rw [if_neg h6] at l1
      rw [l1]
      exact ⟨by omega, by omega, ⟨fun _ q => absurd q h6, fun _ => by omega⟩⟩
  obtain ⟨q1, q2, q3⟩ := hlf
  have hx1 : Ext own' own' (fun k => SM k ∨ k = 49) wr (put wr mb (encM { M with tg := upd M.tg k { M.tg k with lf := (M.tg k).lf - 1 } }) 104) := Ext.put (.inl (.inl (by rw [hM.omb]; omega)))
  have hRp : ∀ cs, Blk (put wr mb cs 104) rb (encR c.2) 41 := fun cs => hR.put_ne hrm
  by_cases hz : (M.tg k).lf - 1 = 0
  · have hend := q3.1 hz
    cases horp : (c.1.x.tp k).orph
    · have hf : flying c.1.x k := ⟨hb, horp⟩
      have hm3 : mo c.1.x k < 3 := by have := hXk.tm k hk; unfold mo; omega
      obtain ⟨f1, f2, f3⟩ := hXk.fly k hk hf
      have hcn := hXk.cnt _ hm3
      have htx := hM.tx _ hm3 _ f1 (by omega)
      have htm : tb (mo c.1.x k) (c.1.x.tp k).sq ≠ mb := htx.neT hM.blk (by decide)
      have hsv := kt.live hf
      refine ⟨_, hsv, q1, q2, .inr ⟨hz, ?_⟩⟩
      have hB1 : Blk (put wr mb (encM { M with tg := upd M.tg k { M.tg k with lf := (M.tg k).lf - 1 } }) 104) mb (encM { M with tg := upd M.tg k { M.tg k with lf := (M.tg k).lf - 1 } }) 104 := Blk.put_same hM.blk.lt
      have hT1 : Blk (put wr mb (encM { M with tg := upd M.tg k { M.tg k with lf := (M.tg k).lf - 1 } }) 104) (tb (mo c.1.x k) (c.1.x.tp k).sq) (encT (txOf c.1.x (mo c.1.x k) (c.1.x.tp k).sq)) 148 := htx.put_ne htm
      obtain ⟨d1, d2, d3, d4, d5⟩ := hM.ends hXk hk hb hend
      have hag := hM.again_eq hXk hk hb hend ((M.tg k).lf - 1)
      have hsv' : (({ M with tg := upd M.tg k { M.tg k with lf := (M.tg k).lf - 1 } } : MA).tg k).sv = .pointer (some ⟨tb (mo c.1.x k) (c.1.x.tp k).sq, 0, none⟩) := by simp only [upd_same]; exact hsv
      have hen' : 0 ≤ (({ M with tg := upd M.tg k { M.tg k with lf := (M.tg k).lf - 1 } } : MA).tg k).en ∧ (({ M with tg := upd M.tg k { M.tg k with lf := (M.tg k).lf - 1 } } : MA).tg k).en < 5 := by simp only [upd_same]; exact ⟨d4, d5⟩
      have hmm : 0 ≤ (txOf c.1.x (mo c.1.x k) (c.1.x.tp k).sq).m ∧ (txOf c.1.x (mo c.1.x k) (c.1.x.tp k).sq).m < 3 := by
        show 0 ≤ ((mo c.1.x k : Nat) : Int) ∧ ((mo c.1.x k : Nat) : Int) < 3; omega
      cases hagv : again c.1.x k (pC k (c.1.p k))
      · rw [hagv] at hag
        refine (conclude_land mb _ k rb hk _ _ c.2 _ hB1 hT1 (hRp _) hsv' rfl hen' hmm hrp hag).mono ?_
        rintro e w' ⟨rfl, hP⟩
        obtain ⟨r1, r2, r3⟩ := hM.colLand hXk hCk hk hf hend hagv _ ho hP
        exact ⟨rfl, own', _, r1, r2, ho, hE.trans (r3.mono (fun _ => SR_SM hk))⟩
      · have h6 : k < 6 := by
          rcases Nat.lt_or_ge k 6 with h6 | h6
          · exact h6
          · exfalso
            have : pC k (c.1.p k) = 0 := by unfold pC; rw [if_neg (by omega)]
            rw [this] at hagv
            unfold again mayRep at hagv
            simp at hagv
        rw [hagv] at hag
        obtain ⟨k1, k2, k3, _⟩ := tkL_keep k (c.1.p k)
        have hP := kt.plans
        have hAc := kt.acted
        have hW := kt.words
        rw [if_pos h6] at hW
        rw [if_pos h6, if_pos h6] at hP hAc
        have hnm : ∀ b, own' b ≠ 30 → b ≠ mb := fun b hb e => hb (by rw [e]; exact hM.omb)
        refine (conclude_again mb _ k rb h6 _ _ c.2 (tkL k (c.1.p k)) _ hB1 hT1 (hRp _) hsv' rfl hen' hmm hrs hag ?_ ?_ ?_ ?_ ?_ ?_ ?_ ?_).mono ?_
        · simp only [upd_same]
          rw [k2]
          exact hP.same fun b hb => put_heap_ne _ _ _ _ _ (hnm b (by rw [hM.opl k hk b hb]; omega))
        · simp only [upd_same]
          rw [acts_congr k3]
          exact hAc.same fun b hb => put_heap_ne _ _ _ _ _ (hnm b (by rw [hM.oac k hk b hb]; omega))
        · simp only [upd_same]
          rw [k1]
          exact hW.same (put_heap_ne _ _ _ _ _ (hnm _ (by rw [hM.owm k hk]; omega)))
        · exact hXk.tsq k hk
        · rw [k2]; exact (hXk.port k h6).pl
        · rw [k2]; exact (hXk.port k h6).n
        · rw [acts_congr k3]
          have h9 := (hXk.port k h6).a
          have h8 : (acts (c.1.p k)).length ≤ (c.1.p k).atts.length := by unfold acts; rw [List.length_map]; exact List.length_filter_le _ _
          omega
        · exact hXk.re _ _ hm3 (by omega)
        · rintro e w' ⟨rfl, w1, hMid, hSnd⟩
          obtain ⟨own2, g', r1, r2, r3⟩ := hM.colAgain hXk h6 hf (hend h6) hagv hrs hrp _ ho hMid hSnd
          exact ⟨rfl, own2, _, r1, r2, (r3.keep rb hR.lt).trans ho, hE.trans (r3.mono (fun _ => SR_SM hk))⟩
    · obtain ⟨b, y, z1, z2, z3, z4⟩ := kt.gone hb horp
      refine ⟨b, z1, q1, q2, .inr ⟨hz, ?_⟩⟩
      obtain ⟨r1, r2⟩ := hM.colGone hXk hk hb hend horp ((M.tg k).lf - 1)
      refine (conclude_gone mb b k rb hk _ y _ (Blk.put_same hM.blk.lt) (z2.put_ne (z2.neT hM.blk (by decide))) (by simp only [upd_same]; exact z1) z3).mono ?_
      rintro e w' ⟨rfl, rfl⟩
      refine ⟨rfl, own', { M with tg := upd M.tg k { M.tg k with lf := (M.tg k).lf - 1, sv := .pointer none } }, ?_, ?_, ho, ?_⟩
      · rw [put_put, MA.two]
        simp only [upd_same]
        exact r1
      · rw [put_put, r2]; exact hRp _
      · rw [put_put]; exact hE.trans (Ext.put (.inl (.inl (by rw [hM.omb]; omega))))
  · have h6 : k < 6 := by
      rcases Nat.lt_or_ge k 6 with h6 | h6
      · exact h6
      · exact absurd (q3.2 (fun q => absurd q (by omega))) hz
    have hne : tickEnds (c.1.p k) = false := by
      cases hq : tickEnds (c.1.p k)
      · rfl
      · exact absurd (q3.2 (fun _ => hq)) hz
    obtain ⟨r1, r2⟩ := hM.colWait hXk h6 hb hne
    have hbx : ∃ b, (M.tg k).sv = .pointer (some ⟨b, 0, none⟩) := by
      cases horp : (c.1.x.tp k).orph
      · exact ⟨_, kt.live ⟨hb, horp⟩⟩
      · obtain ⟨b, y, z1, _⟩ := kt.gone hb horp
        exact ⟨b, z1⟩
    obtain ⟨b, hsv⟩ := hbx
    exact ⟨b, hsv, q1, q2, .inl ⟨hz, own', _, r1, by rw [r2]; exact hRp _, ho, hE.trans hx1⟩⟩
end Go.Proofs.Qxb6500750aDoor
