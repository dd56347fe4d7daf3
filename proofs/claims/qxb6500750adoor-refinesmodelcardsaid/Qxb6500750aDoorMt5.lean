import Derived.Test.Qxb6500750aDoorMt4
namespace Go.Proofs.Qxb6500750aDoor
open Go.RowKit
/-! ### The machine's tick: a round of the arbitration, plain -/
def A4 (own : Nat → Nat) (W0 : World) (mb rb cb gb : Nat) (tb : Nat → Int → Nat) (σ1 : SS) (ρ1 : RepD) (p : Int) (t : Nat) (wr : World) : Prop :=
  ∃ own' M', MR own' wr mb M' tb (arbN (wantsF σ1.x) p t (σ1, ρ1)).1 ∧ Blk wr rb (encR (arbN (wantsF σ1.x) p t (σ1, ρ1)).2) 41 ∧ own' rb = 49 ∧ Blk wr cb (encC (candK tb σ1.x 3)) 151 ∧ own' cb = 50 ∧ Blk wr gb (encGo (goalK σ1.x 3)) 74 ∧ own' gb = 51 ∧ Ext own own' (fun k => SM k ∨ k = 49) W0 wr
theorem put_os' (w : World) (b : Nat) (cs : Array Value) (T : TypeId) : (put w b cs T).os = w.os := rfl
theorem put_tape' (w : World) (b : Nat) (cs : Array Value) (T : TypeId) : (put w b cs T).tape = w.tape := rfl
theorem put_out' (w : World) (b : Nat) (cs : Array Value) (T : TypeId) : (put w b cs T).output = w.output := rfl
theorem says_wants {N : Int} {A : Nat} {σ : SS} (hX : XInv N A σ) (tb : Nat → Int → Nat) (t : Nat) : Says (candK tb σ.x 3) (goalK σ.x 3) (wantsF σ.x t) t := by
  intro m hm
  unfold candK goalK candV wantsF
  rw [if_pos hm]
  have hc := hX.cnt m hm
  by_cases h : (σ.x.mp m).gr < (σ.x.mp m).iss
  · right
    refine ⟨tb m (σ.x.mp m).gr, if_pos h, ?_⟩
    rw [if_pos ⟨hm, h⟩]
    have h1 : ((σ.x.mp m).gr == (σ.x.mp m).iss) = false := by simp; omega
    rw [h1, Bool.not_false, Bool.true_and]
    by_cases e : rtAt σ.x (reqG σ.x m).ad = t
    · left; exact ⟨by rw [e], by simpa using e⟩
    · right; exact ⟨by omega, by simpa using e⟩
  · left
    refine ⟨if_neg h, ?_⟩
    have h1 : ((σ.x.mp m).gr == (σ.x.mp m).iss) = true := by simp; omega
    rw [h1]; rfl
set_option maxHeartbeats 2000000 in
theorem A4.step {N : Int} {A : Nat} {σ1 : SS} (hX : XInv N A σ1) (hA : A + 7 < 1000000000) {own : Nat → Nat} {W0 wr : World} {mb rb cb gb t : Nat} {tb : Nat → Int → Nat} {ρ1 : RepD} {p : Int} (ht : t < 7) (h : A4 own W0 mb rb cb gb tb σ1 ρ1 p t wr) :
    ∃ (M : MA) (ρ : RepD), Blk wr mb (encM M) 104 ∧ Blk wr rb (encR ρ) 41 ∧ Blk wr cb (encC (candK tb σ1.x 3)) 151 ∧ Blk wr gb (encGo (goalK σ1.x 3)) 74 ∧
      ((∃ b : Nat, (M.tg t).sv = .pointer (some ⟨b, 0, none⟩) ∧ A4 own W0 mb rb cb gb tb σ1 ρ1 p (t + 1) (put wr rb (encR { ρ with g := upd ρ.g t (-1) }) 41)) ∨
       ((M.tg t).sv = .pointer none ∧ ∃ tu : Nat, tu < 3 ∧ (M.tg t).tu = (tu : Nat) ∧
          (winF (wantsF σ1.x t) (pickAt p t) tu = -1 → A4 own W0 mb rb cb gb tb σ1 ρ1 p (t + 1) (put wr rb (encR { ρ with g := upd ρ.g t (-1) }) 41)) ∧
          (∀ m : Nat, m < 3 → winF (wantsF σ1.x t) (pickAt p t) tu = (m : Nat) → ∃ (T : Nat) (x : TX), candK tb σ1.x 3 m = .pointer (some ⟨T, 0, none⟩) ∧ Blk wr T (encT x) 148 ∧
            ∀ w2, wr = put (put (put w2 rb (encR ρ) 41) T (encT x) 148) mb (encM M) 104 →
              Calls Tryd.prog 54 #[.pointer (some ⟨mb, 0, none⟩), .int .i64 (t : Nat)] (put (put (put w2 rb (encR { ρ with g := upd ρ.g t (-1) }) 41) T (encT { x with gr := true }) 148) mb (encM { M with tg := upd M.tg t { M.tg t with sv := .pointer (some ⟨T, 0, none⟩), tu := ((m : Nat) + 1) % 3 } }) 104)
                fun e w' => e = .returned (.tuple #[]) ∧ Blk w' rb (encR { ρ with g := upd ρ.g t (-1) }) 41 ∧ A4 own W0 mb rb cb gb tb σ1 ρ1 p (t + 1) (put w' rb (encR { ρ with g := upd ρ.g t (m : Nat) }) 41)))) := by
  obtain ⟨own', M, hM, hR, ho, hCb, hoc, hGb, hog, hE⟩ := h
  obtain ⟨hXt, _⟩ := hX.arbN p ρ1 t (by omega)
  have hI := arbI hX p ρ1 t (by omega)
  have hnx : arbN (wantsF σ1.x) p (t + 1) (σ1, ρ1) = arbT (wantsF σ1.x) p t (arbN (wantsF σ1.x) p t (σ1, ρ1)) := rfl
  unfold A4
  rw [hnx]
  generalize arbN (wantsF σ1.x) p t (σ1, ρ1) = c at *
  have k := hM.tgt t ht
  have hmr : mb ≠ rb := fun e => by have := hM.omb; rw [e] at this; omega
  have hne : ∀ b, own' b ≠ 49 → b ≠ rb := fun b hb e => hb (by rw [e]; exact ho)
  have hcr := hne cb (by omega)
  have hgr := hne gb (by omega)
  have hstay : ∀ cs, MR own' (put wr rb cs 41) mb M tb c.1 := fun cs => hM.ext (Ext.put (S := (· = 49)) ho) (fun j hj e => by unfold SM at hj; omega)
  have hquiet : (c.1.x.tp t).busy = true ∨ wv (wantsF σ1.x t) = 0 → ∃ own'' M', MR own'' (put wr rb (encR { c.2 with g := upd c.2.g t (-1) }) 41) mb M' tb (arbT (wantsF σ1.x) p t c).1 ∧ Blk (put wr rb (encR { c.2 with g := upd c.2.g t (-1) }) 41) rb (encR (arbT (wantsF σ1.x) p t c).2) 41 ∧ own'' rb = 49 ∧ Blk (put wr rb (encR { c.2 with g := upd c.2.g t (-1) }) 41) cb (encC (candK tb σ1.x 3)) 151 ∧ own'' cb = 50 ∧ Blk (put wr rb (encR { c.2 with g := upd c.2.g t (-1) }) 41) gb (encGo (goalK σ1.x 3)) 74 ∧ own'' gb = 51 ∧ Ext own own'' (fun k => SM k ∨ k = 49) W0 (put wr rb (encR { c.2 with g := upd c.2.g t (-1) }) 41) := fun hq => by
    have e : arbT (wantsF σ1.x) p t c = (c.1, { c.2 with g := upd c.2.g t (-1) }) := by unfold arbT; rw [if_pos hq]
    rw [e]
    exact ⟨own', M, hstay _, Blk.put_same hR.lt, ho, hCb.put_ne hcr, hoc, hGb.put_ne hgr, hog, hE.trans (Ext.put (.inr ho))⟩
  refine ⟨M, c.2, hM.blk, hR, hCb, hGb, ?_⟩
  cases hb : (c.1.x.tp t).busy
  · right
    refine ⟨k.free hb, ?_⟩
    have htu := hXt.turn t ht
    refine ⟨(c.1.x.tp t).turn.toNat, by omega, by rw [k.turn]; omega, fun hw => ?_, fun m hm hw => ?_⟩
    · rw [winF_eq _ _ _ (pickAt_lt p t) (by omega)] at hw
      refine hquiet (.inr ?_)
      rcases Nat.eq_zero_or_pos (wv (wantsF σ1.x t)) with h0 | h0
      · exact h0
      · rw [if_neg (by omega)] at hw; omega
    · rw [winF_eq _ _ _ (pickAt_lt p t) (by omega)] at hw
      have hnz : wv (wantsF σ1.x t) ≠ 0 := fun h0 => by rw [if_pos h0] at hw; omega
      rw [if_neg hnz] at hw
      have hcm : cho (wantsF σ1.x t) (pickAt p t) (c.1.x.tp t).turn.toNat = m := by omega
      have e : arbT (wantsF σ1.x) p t c = (grS c.1 t m, { c.2 with g := upd c.2.g t (m : Nat) }) := by
        unfold arbT
        rw [if_neg (fun q => by rcases q with q | q; · rw [hb] at q; cases q
                                exact hnz q)]
        simp only [hcm]
        rfl
      have hwm : wantsF σ1.x t m = true := by rw [← hcm]; exact cho_wants _ _ _ (by omega) hnz
      have hng : ∀ τ, τ < t → c.2.g τ ≠ (m : Nat) := fun τ hτ hg => by
        have := (hI.near τ hτ).wants (hX.turn τ (by omega)) hg
        rw [wantsF_one σ1.x t τ m hwm (by omega)] at this; cases this
      have hmp : c.1.x.mp m = σ1.x.mp m := by
        rcases hI.mp m hm with h1 | ⟨_, τ, b2, b3, _⟩
        · exact h1.1
        · exact absurd b3 (hng τ b2)
      have hg1 : (σ1.x.mp m).gr < (σ1.x.mp m).iss := by
        have hc := hX.cnt m hm
        unfold wantsF at hwm
        simp only [Bool.and_eq_true, Bool.not_eq_true', beq_eq_false_iff_ne] at hwm
        omega
      have hg : (c.1.x.mp m).gr < (c.1.x.mp m).iss := by rw [hmp]; exact hg1
      have hc := hXt.cnt m hm
      refine ⟨tb m (c.1.x.mp m).gr, txOf c.1.x m (c.1.x.mp m).gr, ?_, hM.tx m hm _ (by omega) hg, ?_⟩
      · unfold candK candV
        rw [if_pos hm, if_pos hg1, hmp]
      · intro w2 hwr
        have hT := hM.tx m hm (c.1.x.mp m).gr (by omega) hg
        have hoT := hM.otx m hm (c.1.x.mp m).gr (by omega) hg
        have hTr := hne (tb m (c.1.x.mp m).gr) (by omega)
        have hTm : tb m (c.1.x.mp m).gr ≠ mb := fun e => by rw [e, hM.omb] at hoT; omega
        have hzz : wr.heap.size = w2.heap.size := by rw [hwr]; simp only [put_size]
        obtain ⟨w1, hw1⟩ : ∃ w1, (put (put (put w2 rb (encR { c.2 with g := upd c.2.g t (-1) }) 41) (tb m (c.1.x.mp m).gr) (encT { txOf c.1.x m (c.1.x.mp m).gr with gr := true }) 148) mb (encM { M with tg := upd M.tg t { M.tg t with sv := .pointer (some ⟨tb m (c.1.x.mp m).gr, 0, none⟩), tu := ((m : Nat) + 1) % 3 } }) 104) = w1 := ⟨_, rfl⟩
        have hz1 : w1.heap.size = wr.heap.size := by rw [← hw1, hzz]; simp only [put_size]
        have hs1 : ∀ b, b ≠ mb → b ≠ tb m (c.1.x.mp m).gr → b ≠ rb → w1.heap[b]? = wr.heap[b]? := fun b h1 h2 h3 => by
          rw [← hw1, hwr, put_heap_ne _ _ _ _ _ h1, put_heap_ne _ _ _ _ _ h2, put_heap_ne _ _ _ _ _ h3, put_heap_ne _ _ _ _ _ h1, put_heap_ne _ _ _ _ _ h2, put_heap_ne _ _ _ _ _ h3]
        have hB1 : Blk w1 mb (encM { M with tg := upd M.tg t (grG tb c.1 m (M.tg t)) }) 104 := by rw [← hw1]; exact Blk.put_same (by simp only [put_size]; have := hM.blk.lt; omega)
        have hT1 : Blk w1 (tb m (c.1.x.mp m).gr) (encT (grT c.1 m)) 148 := by
          rw [← hw1]
          exact (put_heap_ne _ _ _ _ _ hTm).trans (Blk.put_same (by simp only [put_size]; have := hT.lt; omega))
        have hR1 : Blk w1 rb (encR { c.2 with g := upd c.2.g t (-1) }) 41 := by
          rw [← hw1]
          exact (put_heap_ne _ _ _ _ _ hmr.symm).trans ((put_heap_ne _ _ _ _ _ hTr.symm).trans (Blk.put_same (by have := hR.lt; omega)))
        have hos1 : w1.os = wr.os ∧ w1.tape = wr.tape ∧ w1.output = wr.output := by rw [← hw1, hwr]; simp only [put_os', put_tape', put_out', and_self]
        rw [hw1]
        have hnm : ∀ b, own' b ≠ 30 → b ≠ mb := fun b hb e => hb (by rw [e]; exact hM.omb)
        have hsm : ∀ b, own' b ≠ 30 → own' b ≠ 34 → own' b ≠ 49 → w1.heap[b]? = wr.heap[b]? := fun b h1 h2 h3 => hs1 b (hnm b h1) (fun e => h2 (by rw [e]; exact hoT)) (hne b h3)
        have howm := hM.owm t ht
        refine (sent_any (own := own') (b := tb m (c.1.x.mp m).gr) (x := grT c.1 m) (qs := c.1.p t) ht hB1 hT1 ?_ ?_ ?_ ?_ ?_ ?_ ?_ ?_ ?_ hM.omb ?_ ?_ ?_).mono ?_
        · simp only [upd_same]; rfl
        · simp only [upd_same]
          exact k.words.same (hsm _ (by rw [howm]; omega) (by rw [howm]; omega) (by rw [howm]; omega))
        · simp only [upd_same]
          exact k.plans.same fun b hb => by have := hM.opl t ht b hb; exact hsm b (by omega) (by omega) (by omega)
        · simp only [upd_same]
          exact k.acted.same fun b hb => by have := hM.oac t ht b hb; exact hsm b (by omega) (by omega) (by omega)
        · show 0 ≤ ((m : Nat) : Int) ∧ ((m : Nat) : Int) < 3; omega
        · show 0 ≤ (c.1.x.mp m).gr; omega
        · exact fun h6 => (hXt.port t h6).pl
        · exact fun h6 => (hXt.port t h6).n
        · intro h6
          have h9 := (hXt.port t h6).a
          have h8 : (acts (c.1.p t)).length ≤ (c.1.p t).atts.length := by unfold acts; rw [List.length_map]; exact List.length_filter_le _ _
          omega
        · simp only [upd_same]; exact howm
        · simp only [upd_same]; exact hM.opl t ht
        · simp only [upd_same]; exact hM.oac t ht
        · rintro ee w' ⟨rfl, own2, g', hS⟩
          obtain ⟨r1, r2⟩ := hM.grant hXt ht hm hb hg ho hT1 hz1 hos1 hs1 hS
          have hkeep : ∀ b, b < wr.heap.size → own' b = 49 ∨ own' b = 50 ∨ own' b = 51 → w'.heap[b]? = w1.heap[b]? := fun b hbl hbo => hS.ext.block b (by omega) (by omega)
          have hRr : Blk w' rb (encR { c.2 with g := upd c.2.g t (-1) }) 41 := (hkeep rb hR.lt (.inl ho)).trans hR1
          have hC' : Blk w' cb (encC (candK tb σ1.x 3)) 151 := (hkeep cb hCb.lt (.inr (.inl hoc))).trans ((hsm cb (by omega) (by omega) (by omega)).trans hCb)
          have hG' : Blk w' gb (encGo (goalK σ1.x 3)) 74 := (hkeep gb hGb.lt (.inr (.inr hog))).trans ((hsm gb (by omega) (by omega) (by omega)).trans hGb)
          have ho2 : own2 rb = 49 := (r2.keep rb hR.lt).trans ho
          refine ⟨rfl, hRr, ?_⟩
          rw [e]
          exact ⟨own2, _, r1.ext (Ext.put (S := (· = 49)) ho2) (fun j hj e => by unfold SM at hj; omega), Blk.put_same hRr.lt, ho2, hC'.put_ne hcr, (r2.keep cb hCb.lt).trans hoc, hG'.put_ne hgr, (r2.keep gb hGb.lt).trans hog, (hE.trans (r2.mono (fun _ => SR_SM ht))).trans (Ext.put (.inr ho2))⟩
  · left
    have hbx : ∃ b, (M.tg t).sv = .pointer (some ⟨b, 0, none⟩) := by
      cases horp : (c.1.x.tp t).orph
      · exact ⟨_, k.live ⟨hb, horp⟩⟩
      · obtain ⟨b, y, z1, _⟩ := k.gone hb horp
        exact ⟨b, z1⟩
    obtain ⟨b, hsv⟩ := hbx
    exact ⟨b, hsv, hquiet (.inl hb)⟩
end Go.Proofs.Qxb6500750aDoor
