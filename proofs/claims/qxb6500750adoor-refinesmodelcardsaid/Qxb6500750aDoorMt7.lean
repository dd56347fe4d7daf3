import Derived.Test.Qxb6500750aDoorMt6
namespace Go.Proofs.Qxb6500750aDoor
open Go.RowKit
/-! ### The machine's tick: answers handed back -/
theorem setM_get' (x : XS) (k m : Nat) (a : MP) : (x.setM k a).mp m = if m = k then a else x.mp m := rfl
/-- One master's counters turned. -/
theorem MR.master {own : Nat → Nat} {w w' : World} {mb : Nat} {M : MA} {tb : Nat → Int → Nat} {σ : SS} (h : MR own w mb M tb σ) {k : Nat} (a : MP) (v : Value)
    (hsl : a.sl = (σ.x.mp k).sl) (hgr : a.gr = (σ.x.mp k).gr) (his : a.iss = (σ.x.mp k).iss) (hio : a.iso = (σ.x.mp k).iso) (hrt : (σ.x.mp k).rt ≤ a.rt) (htk : a.tk = false)
    (hx : Ext own own (fun j => j = 30 ∨ j = 49) w w') (hblk : Blk w' mb (encM { M with q := upd M.q k v, tk := upd M.tk k false }) 104)
    (hv : Sl w' v 99 1 (a.iss - a.rt).toNat (qrow tb k a.rt (a.iss - a.rt).toNat)) (hov : ∀ b, v.ownBlock = some b → own b = 31 + k) :
    MR own w' mb { M with q := upd M.q k v, tk := upd M.tk k false } tb { σ with x := σ.x.setM k a } := by
  have hmp : ∀ m, ((σ.x.setM k a).mp m).iss = (σ.x.mp m).iss ∧ (σ.x.mp m).rt ≤ ((σ.x.setM k a).mp m).rt ∧ ((σ.x.setM k a).mp m).gr = (σ.x.mp m).gr ∧ ((σ.x.setM k a).mp m).sl = (σ.x.mp m).sl ∧ ((σ.x.setM k a).mp m).iso = (σ.x.mp m).iso := fun m => by
    rw [setM_get']
    by_cases e : m = k
    · subst e; rw [if_pos rfl]; exact ⟨his, hrt, hgr, hsl, hio⟩
    · rw [if_neg e]; exact ⟨rfl, Int.le_refl _, rfl, rfl, rfl⟩
  have htx : ∀ m q, txOf (σ.x.setM k a) m q = txOf σ.x m q := fun m q => by
    unfold txOf slq
    rw [(hmp m).2.2.2.1, (hmp m).2.2.1]
  refine ⟨hblk, fun m hm => ?_, fun m hm q h1 h2 => ?_, fun m q m' q' hm hm' h1 h2 h3 h4 => ?_, fun m hm => ?_, fun m hm => ?_, fun m hm => ?_, fun t ht => ?_, (hx.keep _ h.blk.lt).trans h.omb, fun m hm b hb => ?_, fun m hm q h1 h2 => ?_, ?_, h.owm, h.opl, h.oac⟩
  · show Sl w' (upd M.q k v m) 99 1 (((σ.x.setM k a).mp m).iss - ((σ.x.setM k a).mp m).rt).toNat (qrow tb m ((σ.x.setM k a).mp m).rt (((σ.x.setM k a).mp m).iss - ((σ.x.setM k a).mp m).rt).toNat)
    rw [setM_get']
    by_cases e : m = k
    · subst e; rw [if_pos rfl, upd_same]; exact hv
    · rw [if_neg e, upd_ne _ _ _ _ e]
      exact (h.queue m hm).same fun b hb => hx.block b ((h.queue m hm).lt b hb) (fun hs => by have := h.oq m hm b hb; omega)
  · have h1 : ((σ.x.setM k a).mp m).rt ≤ q := h1
    have h2 : q < ((σ.x.setM k a).mp m).iss := h2
    rw [(hmp m).1] at h2
    have h1' := Int.le_trans (hmp m).2.1 h1
    show Blk w' (tb m q) (encT (txOf (σ.x.setM k a) m q)) 148
    rw [htx]
    exact (h.tx m hm q h1' h2).ext hx (by rw [h.otx m hm q h1' h2]; omega)
  · have h2 : q < ((σ.x.setM k a).mp m).iss := h2
    have h4 : q' < ((σ.x.setM k a).mp m').iss := h4
    rw [(hmp m).1] at h2
    rw [(hmp m').1] at h4
    exact h.inj m q m' q' hm hm' (Int.le_trans (hmp m).2.1 h1) h2 (Int.le_trans (hmp m').2.1 h3) h4
  · show M.ac m = ((σ.x.setM k a).mp m).iss
    rw [(hmp m).1]; exact h.ac m hm
  · show upd M.tk k false m = ((σ.x.setM k a).mp m).tk
    rw [setM_get']
    by_cases e : m = k
    · subst e; rw [if_pos rfl, upd_same, htk]
    · rw [if_neg e, upd_ne _ _ _ _ e]; exact h.tk m hm
  · show M.ba m = ((σ.x.setM k a).mp m).iso
    rw [(hmp m).2.2.2.2]; exact h.ba m hm
  · have kk := h.tgt t ht
    refine ⟨kk.words.same (hx.block _ kk.words.lt (fun hs => by have := h.owm t ht; omega)), kk.plans.same fun b hb => hx.block b (kk.plans.lt b hb) (fun hs => by have := h.opl t ht b hb; omega), kk.acted.same fun b hb => hx.block b (kk.acted.lt b hb) (fun hs => by have := h.oac t ht b hb; omega), kk.free, kk.live, fun h1 h2 => ?_, kk.left, kk.turn, kk.iso⟩
    obtain ⟨b, y, z1, z2, z3, z4⟩ := kk.gone h1 h2
    refine ⟨b, y, z1, z2.ext hx (by rw [h.ogn t ht h1 h2 b z1]; omega), z3, fun m q hm q1 q2 => ?_⟩
    have q2 : q < ((σ.x.setM k a).mp m).iss := q2
    rw [(hmp m).1] at q2
    exact z4 m q hm (Int.le_trans (hmp m).2.1 q1) q2
  · have hb : (upd M.q k v m).ownBlock = some b := hb
    by_cases e : m = k
    · subst e; rw [upd_same] at hb; exact hov b hb
    · rw [upd_ne _ _ _ _ e] at hb; exact h.oq m hm b hb
  · have h2 : q < ((σ.x.setM k a).mp m).iss := h2
    rw [(hmp m).1] at h2
    exact h.otx m hm q (Int.le_trans (hmp m).2.1 h1) h2
  · exact fun t ht h1 h2 b hb => h.ogn t ht h1 h2 b hb
def H5 (own : Nat → Nat) (W0 : World) (mb rb : Nat) (tb : Nat → Int → Nat) (σ2 : SS) (ρ2 : RepD) (M0 : MA) (k : Nat) (wr : World) : Prop :=
  ∃ own' M', MR own' wr mb M' tb ⟨(handN k (σ2.x, ρ2)).1, σ2.p⟩ ∧ Blk wr rb (encR (handN k (σ2.x, ρ2)).2) 41 ∧ own' rb = 49 ∧ (∀ m, k ≤ m → m < 3 → M'.q m = M0.q m) ∧ Ext own own' (fun k => SM k ∨ k = 49) W0 wr
theorem upd_self {α : Type} (f : Nat → α) (m : Nat) : upd f m (f m) = f := by
  funext i
  by_cases e : i = m
  · rw [e, upd_same]
  · rw [upd_ne _ _ _ _ e]
theorem dn_os (w : World) (n : Nat) : (w.drewN n).os = w.os := rfl
theorem dn_tape (w : World) (n : Nat) : (w.drewN n).tape = w.tape := rfl
theorem dn_out (w : World) (n : Nat) : (w.drewN n).output = w.output := rfl
theorem qrow_tail (tb : Nat → Int → Nat) (m : Nat) (r : Int) (n : Nat) : (qrow tb m r (n + 1)).drop 1 = qrow tb m (r + 1) n := by
  unfold qrow
  apply List.ext_getElem
  · simp
  · intro i h1 h2
    simp only [List.getElem_drop, List.getElem_map, List.getElem_range]
    congr 3
    have : r + 1 + ((i : Nat) : Int) = r + ((1 + i : Nat) : Int) := by omega
    rw [this]
theorem H5.step {N : Int} {A : Nat} {σ2 : SS} (hX : XInv N A σ2) {own : Nat → Nat} {W0 wr : World} {mb rb k : Nat} {tb : Nat → Int → Nat} {ρ2 : RepD} {M0 : MA} (hk : k < 3) (h : H5 own W0 mb rb tb σ2 ρ2 M0 k wr) :
    ∃ (M : MA) (ρ : RepD) (a : Option Addr) (L cap : Nat), Blk wr mb (encM M) 104 ∧ Blk wr rb (encR ρ) 41 ∧ M.q k = .slice a L cap ∧ M0.q k = .slice a L cap ∧ L ≤ 4 ∧
      ((L = 0 ∧ H5 own W0 mb rb tb σ2 ρ2 M0 (k + 1) (put wr mb (encM { M with tk := upd M.tk k false }) 104)) ∨
       ∃ (b off T : Nat) (x : TX), 0 < L ∧ L ≤ cap ∧ a = some ⟨b, off, none⟩ ∧ wr.cell? ⟨b, off, none⟩ = some (.pointer (some ⟨T, 0, none⟩)) ∧ b ≠ mb ∧ b ≠ rb ∧ b ≠ T ∧ Blk wr T (encT x) 148 ∧
         ((x.dn = false ∧ H5 own W0 mb rb tb σ2 ρ2 M0 (k + 1) (put wr mb (encM { M with tk := upd M.tk k false }) 104)) ∨
          (x.dn = true ∧ ∀ w2 n, wr = put (put (put w2 rb (encR ρ) 41) T (encT x) 148) mb (encM M) 104 →
            H5 own W0 mb rb tb σ2 ρ2 M0 (k + 1) ((put (put (put w2 rb (encR { ρ with r := upd ρ.r k x.an }) 41) T (encT x) 148) mb (encM { M with q := upd M.q k (.slice (some (if cap = 1 then (⟨b, off, none⟩ : Addr) else ⟨b, off + 1, none⟩)) (L - 1) (cap - 1)), tk := upd M.tk k false }) 104).drewN n)))) := by
  obtain ⟨own', M, hM, hR, ho, hq, hE⟩ := h
  have hXk := hX.handN ρ2 k (by omega)
  have hnx : handN (k + 1) (σ2.x, ρ2) = handT k (handN k (σ2.x, ρ2)) := rfl
  unfold H5
  rw [hnx]
  generalize handN k (σ2.x, ρ2) = c at *
  have hS := hM.queue k hk
  have hcn := hXk.cnt k hk
  obtain ⟨L, hL⟩ : ∃ L, ((c.1.mp k).iss - (c.1.mp k).rt).toNat = L := ⟨_, rfl⟩
  have hS : Sl wr (M.q k) 99 1 ((c.1.mp k).iss - (c.1.mp k).rt).toNat (qrow tb k (c.1.mp k).rt ((c.1.mp k).iss - (c.1.mp k).rt).toNat) := hS
  rw [hL] at hS
  obtain ⟨a, cap, hv⟩ := hS.form'
  have hcn : 0 ≤ (c.1.mp k).rt ∧ (c.1.mp k).rt ≤ (c.1.mp k).gr ∧ (c.1.mp k).gr ≤ (c.1.mp k).iss ∧ (c.1.mp k).iss ≤ (c.1.mp k).rt + 4 ∧ (c.1.mp k).iss ≤ N := hcn
  have hrm : rb ≠ mb := fun e => by rw [e, hM.omb] at ho; omega
  have hno : hands c.1 k = false → ∃ own'' M', MR own'' (put wr mb (encM { M with tk := upd M.tk k false }) 104) mb M' tb ⟨(handT k c).1, σ2.p⟩ ∧ Blk (put wr mb (encM { M with tk := upd M.tk k false }) 104) rb (encR (handT k c).2) 41 ∧ own'' rb = 49 ∧ (∀ m, k + 1 ≤ m → m < 3 → M'.q m = M0.q m) ∧ Ext own own'' (fun k => SM k ∨ k = 49) W0 (put wr mb (encM { M with tk := upd M.tk k false }) 104) := fun hh => by
    have e : handT k c = (untake c.1 k, c.2) := by unfold handT; rw [if_neg (by rw [hh]; exact Bool.noConfusion)]
    rw [e]
    have hm := hM.master (k := k) (w' := put wr mb (encM { M with tk := upd M.tk k false }) 104) { c.1.mp k with tk := false } (M.q k) rfl rfl rfl rfl (Int.le_refl _) rfl (Ext.put (.inl hM.omb)) (by rw [upd_self]; exact Blk.put_same hM.blk.lt)
      (by
        show Sl _ _ 99 1 ((c.1.mp k).iss - (c.1.mp k).rt).toNat (qrow tb k (c.1.mp k).rt ((c.1.mp k).iss - (c.1.mp k).rt).toNat)
        rw [hL]
        exact hS.same fun b hb => put_heap_ne _ _ _ _ _ (fun e => by have := hM.oq k hk b hb; rw [e, hM.omb] at this; omega)) (hM.oq k hk)
    rw [upd_self] at hm
    exact ⟨own', _, hm, hR.put_ne hrm, ho, fun m hm1 hm2 => hq m (by omega) hm2, hE.trans (Ext.put (.inl (.inl (by rw [hM.omb]; omega))))⟩
  refine ⟨M, c.2, a, L, cap, hM.blk, hR, hv, (hq k (Nat.le_refl _) hk).symm.trans hv, by omega, ?_⟩
  rcases Nat.eq_zero_or_pos L with hz | hz
  · left
    refine ⟨hz, hno ?_⟩
    unfold hands
    have : ((c.1.mp k).rt == (c.1.mp k).iss) = true := by simp; omega
    rw [this]; rfl
  · right
    obtain ⟨b, off, cap', hv', hc1, hbl⟩ := hS.form hz
    rw [hv] at hv'
    injection hv' with e1 e2 e3
    subst e1; subst e3
    have hob : own' b = 31 + k := hM.oq k hk b (by rw [hv]; rfl)
    have hlt : (c.1.mp k).rt < (c.1.mp k).iss := by omega
    have hT : Blk wr (tb k (c.1.mp k).rt) (encT (txOf c.1 k (c.1.mp k).rt)) 148 := hM.tx k hk _ (Int.le_refl _) hlt
    have hoT : own' (tb k (c.1.mp k).rt) = 34 := hM.otx k hk _ (Int.le_refl _) hlt
    have hne1 : ((c.1.mp k).rt == (c.1.mp k).iss) = false := by simp; omega
    have hcell := hS.cell hv 0 (by simp [qrow]; exact hz)
    have hx0 : (qrow tb k (c.1.mp k).rt L)[0]? = some (.pointer (some ⟨tb k (c.1.mp k).rt, 0, none⟩)) := by
      unfold qrow; rw [List.getElem?_map, List.getElem?_range hz]; simp
    rw [hx0] at hcell
    have hbT : b ≠ tb k (c.1.mp k).rt := fun e => by rw [e, hoT] at hob; omega
    have hbm : b ≠ mb := fun e => by rw [e, hM.omb] at hob; omega
    have hbr : b ≠ rb := fun e => by rw [e, ho] at hob; omega
    have hTm : tb k (c.1.mp k).rt ≠ mb := fun e => by rw [e, hM.omb] at hoT; omega
    have hTr : tb k (c.1.mp k).rt ≠ rb := fun e => by rw [e, ho] at hoT; omega
    refine ⟨b, off, _, _, hz, hc1, rfl, hcell, hbm, hbr, hbT, hT, ?_⟩
    cases hd : (txOf c.1 k (c.1.mp k).rt).dn
    · left
      refine ⟨rfl, hno ?_⟩
      unfold hands
      have hd : (((c.1.mp k).sl ((c.1.mp k).rt % 4).toNat).ph == 2) = false := hd
      rw [hne1, hd]; rfl
    · right
      refine ⟨rfl, fun w2 n hwr => ?_⟩
      have hh : hands c.1 k = true := by
        unfold hands
        have hd : (((c.1.mp k).sl ((c.1.mp k).rt % 4).toNat).ph == 2) = true := hd
        rw [hne1, hd]; rfl
      have e : handT k c = (c.1.setM k { c.1.mp k with tk := false, rt := (c.1.mp k).rt + 1 }, { c.2 with r := upd c.2.r k ((c.1.mp k).sl ((c.1.mp k).rt % 4).toNat).ret }) := by unfold handT; rw [if_pos hh]
      rw [e]
      have hz2 : wr.heap.size = w2.heap.size := by rw [hwr]; simp only [put_size]
      obtain ⟨v, hvv⟩ : ∃ v, v = Value.slice (some (if cap = 1 then (⟨b, off, none⟩ : Addr) else ⟨b, off + 1, none⟩)) (L - 1) (cap - 1) := ⟨_, rfl⟩
      obtain ⟨w', hw'⟩ : ∃ w', w' = (put (put (put w2 rb (encR { c.2 with r := upd c.2.r k (txOf c.1 k (c.1.mp k).rt).an }) 41) (tb k (c.1.mp k).rt) (encT (txOf c.1 k (c.1.mp k).rt)) 148) mb (encM { M with q := upd M.q k v, tk := upd M.tk k false }) 104).drewN n := ⟨_, rfl⟩
      have hheap : ∀ j, j ≠ mb → j ≠ rb → w'.heap[j]? = wr.heap[j]? := fun j h1 h2 => by
        rw [hw', hwr]
        show (put (put (put w2 rb _ 41) (tb k (c.1.mp k).rt) _ 148) mb _ 104).heap[j]? = _
        rw [put_heap_ne _ _ _ _ _ h1, put_heap_ne _ _ _ _ _ h1]
        by_cases e : j = tb k (c.1.mp k).rt
        · subst e
          rw [Blk.put_same (by simp only [put_size]; have := hT.lt; omega), Blk.put_same (by simp only [put_size]; have := hT.lt; omega)]
        · rw [put_heap_ne _ _ _ _ _ e, put_heap_ne _ _ _ _ _ e, put_heap_ne _ _ _ _ _ h2, put_heap_ne _ _ _ _ _ h2]
      have hzz : w'.heap.size = wr.heap.size := by rw [hw', hz2]; show (put (put (put w2 rb _ 41) (tb k (c.1.mp k).rt) _ 148) mb _ 104).heap.size = _; simp only [put_size]
      have hos : w'.os = wr.os ∧ w'.tape = wr.tape ∧ w'.output = wr.output := by
        rw [hw', hwr]
        simp only [dn_os, dn_tape, dn_out, put_os', put_tape', put_out', and_self]
      have hx : Ext own' own' (fun j => j = 30 ∨ j = 49) wr w' := ⟨hos.1, hos.2.1, hos.2.2, by omega, fun _ _ => rfl, fun j _ hs => hheap j (fun e => hs (.inl (by rw [e]; exact hM.omb))) (fun e => hs (.inr (by rw [e]; exact ho)))⟩
      have hB' : Blk w' mb (encM { M with q := upd M.q k v, tk := upd M.tk k false }) 104 := by rw [hw']; exact Blk.put_same (by simp only [put_size]; have := hM.blk.lt; omega)
      have hR' : Blk w' rb (encR { c.2 with r := upd c.2.r k (txOf c.1 k (c.1.mp k).rt).an }) 41 := by
        rw [hw']
        exact (put_heap_ne _ _ _ _ _ hrm).trans ((put_heap_ne _ _ _ _ _ (Ne.symm hTr)).trans (Blk.put_same (by have := hR.lt; omega)))
      rw [← hvv, ← hw']
      have hlen : ((c.1.mp k).iss - ((c.1.mp k).rt + 1)).toNat = L - 1 := by omega
      obtain ⟨L', rfl⟩ : ∃ L', L = L' + 1 := ⟨L - 1, by omega⟩
      have htl := hS.tail hv
      rw [qrow_tail] at htl
      have hm := hM.master (k := k) { c.1.mp k with tk := false, rt := (c.1.mp k).rt + 1 } v rfl rfl rfl rfl (by show (c.1.mp k).rt ≤ (c.1.mp k).rt + 1; omega) rfl hx hB'
        (by
          show Sl _ _ 99 1 ((c.1.mp k).iss - ((c.1.mp k).rt + 1)).toNat (qrow tb k ((c.1.mp k).rt + 1) ((c.1.mp k).iss - ((c.1.mp k).rt + 1)).toNat)
          rw [hlen, hvv]
          refine htl.same fun j hj => ?_
          have : j = b := by
            by_cases hc : cap = 1
            · rw [if_pos hc] at hj; injection hj with hj; exact hj.symm
            · rw [if_neg hc] at hj; injection hj with hj; exact hj.symm
          subst this
          exact hheap j hbm hbr)
        (fun j hj => by
          rw [hvv] at hj
          have : j = b := by
            by_cases hc : cap = 1
            · rw [if_pos hc] at hj; injection hj with hj; exact hj.symm
            · rw [if_neg hc] at hj; injection hj with hj; exact hj.symm
          rw [this]; exact hob)
      exact ⟨own', _, hm, hR', ho, fun m h1 h2 => by show upd M.q k v m = _; rw [upd_ne _ _ _ _ (by omega)]; exact hq m (by omega) h2, hE.trans (hx.mono (fun j hj => by unfold SM; omega))⟩
attribute [local go_sem] put_size put_cell_same put_cell_ne put_frozen_same put_frozen_ne put_setCell_same put_setCell_ne put_drew
attribute [local go_sem] drewN_setCell drewN_alloc drewN_put upd_same upd_upd
attribute [local go_sem] mg_q mg_ac mg_tk mg_ba mg_wm mg_pv mg_av mg_sv mg_lf mg_en mg_rd mg_tu mg_is ms_q ms_ac ms_tk ms_ba ms_wm ms_pv ms_av ms_sv ms_lf ms_en ms_rd ms_tu ms_is
attribute [local go_sem] tg_0 tg_1 tg_2 tg_3 tg_4 tg_5 tg_6 tg_7 tg_8 tg_9 tg_10 tg_11 tg_12 tg_13 ts_5 ts_6 ts_7 ts_10 ts_11 ts_12 ts_13
attribute [local go_sem] rg_r0 rg_r1 rg_r2 rg_r3 rg_r4 rg_r5 rs_r0 rs_r1 rs_r2 rs_r3 rs_r4 rs_r5
def fr38g (mb n : Nat) (p : Int) (qv : Value) (k : Nat) (u : Nat → Value) : Act :=
  { tmps := ((.pointer (some ⟨mb, 0, none⟩)) :: (.int .u32 p) :: (u 2) :: (u 3) :: (.pointer (some ⟨n, 0, none⟩)) :: (.pointer (some ⟨n + 1, 0, none⟩)) :: (u 6) :: (u 7) :: (u 8) :: (u 9) :: (u 10) :: (u 11) :: (u 12) :: (u 13) :: (u 14) :: (u 15) :: (u 16) :: (u 17) :: (u 18) :: (u 19) :: (u 20) :: (u 21) :: (u 22) :: (u 23) :: (u 24) :: (u 25) :: (u 26) :: (u 27) :: (u 28) :: (u 29) :: (u 30) :: (u 31) :: (u 32) :: (u 33) :: (u 34) :: (u 35) :: (u 36) :: (u 37) :: (u 38) :: (u 39) :: (u 40) :: (u 41) :: (u 42) :: (u 43) :: (u 44) :: (u 45) :: (u 46) :: (u 47) :: (u 48) :: (u 49) :: (u 50) :: (u 51) :: (u 52) :: (u 53) :: (u 54) :: (u 55) :: (u 56) :: (u 57) :: (u 58) :: (u 59) :: (u 60) :: (u 61) :: (u 62) :: (u 63) :: (u 64) :: (u 65) :: (u 66) :: (u 67) :: (u 68) :: (u 69) :: (u 70) :: (u 71) :: (u 72) :: (u 73) :: (u 74) :: (u 75) :: (u 76) :: (u 77) :: (u 78) :: (u 79) :: (u 80) :: (u 81) :: (u 82) :: (u 83) :: (u 84) :: (u 85) :: (u 86) :: (u 87) :: (u 88) :: (u 89) :: (u 90) :: (u 91) :: (u 92) :: (u 93) :: (u 94) :: (u 95) :: (u 96) :: (u 97) :: (u 98) :: (u 99) :: (u 100) :: (u 101) :: (u 102) :: (u 103) :: (u 104) :: (u 105) :: (u 106) :: (u 107) :: (u 108) :: (u 109) :: (u 110) :: (u 111) :: (u 112) :: (u 113) :: (u 114) :: (u 115) :: (u 116) :: (u 117) :: (u 118) :: (u 119) :: (u 120) :: (u 121) :: (u 122) :: (u 123) :: (u 124) :: (u 125) :: (u 126) :: (u 127) :: (u 128) :: (u 129) :: (u 130) :: (u 131) :: (u 132) :: (u 133) :: (u 134) :: (u 135) :: (u 136) :: (u 137) :: (u 138) :: (u 139) :: (u 140) :: (u 141) :: (u 142) :: (u 143) :: (u 144) :: (u 145) :: (u 146) :: (u 147) :: (u 148) :: (u 149) :: (u 150) :: (u 151) :: (u 152) :: (u 153) :: (u 154) :: (u 155) :: (u 156) :: (u 157) :: (u 158) :: (u 159) :: (u 160) :: (u 161) :: (u 162) :: (u 163) :: (u 164) :: (u 165) :: (u 166) :: (u 167) :: (u 168) :: (u 169) :: (u 170) :: (u 171) :: (u 172) :: (u 173) :: (u 174) :: (u 175) :: (u 176) :: (u 177) :: (u 178) :: (u 179) :: (u 180) :: (u 181) :: qv :: (.int .i64 (k : Nat)) :: (u 184) :: (u 185) :: (u 186) :: (u 187) :: (u 188) :: (u 189) :: (u 190) :: (u 191) :: (u 192) :: (u 193) :: (u 194) :: (u 195) :: (u 196) :: (u 197) :: (u 198) :: (u 199) :: (u 200) :: (u 201) :: (u 202) :: (u 203) :: (u 204) :: (u 205) :: (u 206) :: (u 207) :: (u 208) :: (u 209) :: (u 210) :: (u 211) :: (u 212) :: (u 213) :: (u 214) :: (u 215) :: (u 216) :: (u 217) :: (u 218) :: (u 219) :: (u 220) :: [] : List Value).toArray, defers := [] }

set_option maxRecDepth 100000 in
set_option maxHeartbeats 4000000 in
theorem lp38_5 {N : Int} {A : Nat} {σ2 : SS} (hX : XInv N A σ2) {own : Nat → Nat} {W0 w : World} {mb n : Nat} {tb : Nat → Int → Nat} {ρ2 : RepD} {M0 : MA} (p : Int) (qv : Value) (hix : ∀ m, m < 3 → ∀ w, (Instr.index 96 qv (.int .i64 (m : Nat))).run Tryd.prog w = .ok (M0.q m) w) (h0 : H5 own W0 mb (n + 1) tb σ2 ρ2 M0 0 w) (u0 : Nat → Value) (Q : Exit → Act → World → Prop)
    (hQ : ∀ u wr, H5 own W0 mb (n + 1) tb σ2 ρ2 M0 3 wr → Q (.exit 12) (fr38g mb n p qv 3 u) wr) (body : Code) (hbody : body = ((Tryd.f38.body.map loopsOf).getD []).getD 4 .skip) :
    (Code.loop body).wp Tryd.prog Q (fr38g mb n p qv 0 u0) w := by
  subst hbody
  conv => arg 2; arg 1; whnf
  refine wp_loop (fun act wr => ∃ (u : Nat → Value) (k : Nat), act = fr38g mb n p qv k u ∧ k ≤ 3 ∧ Hid (H5 own W0 mb (n + 1) tb σ2 ρ2 M0 k wr)) (fun act _ => 3 - (intOf (act.tmps.getD 183 undef)).toNat) ?start ?round
  case start => exact ⟨u0, 0, rfl, by omega, h0⟩
  case round =>
    rintro a0 wr ⟨u, k, rfl, hk, hL⟩
    obtain ⟨KR, hKR⟩ : ∃ KR : Act → World → Prop, KR = fun a' w' => ((fun act wr => ∃ (u : Nat → Value) (k : Nat), act = fr38g mb n p qv k u ∧ k ≤ 3 ∧ Hid (H5 own W0 mb (n + 1) tb σ2 ρ2 M0 k wr)) a' w' ∧ 3 - (intOf (a'.tmps.getD 183 undef)).toNat < 3 - (intOf ((fr38g mb n p qv k u).tmps.getD 183 undef)).toNat) := ⟨_, rfl⟩
    have HKR : Hid (∀ (act : Act) (w' : World), act = fr38g mb n p qv (k + 1) (fun i => act.tmps.getD i undef) → k < 3 → H5 own W0 mb (n + 1) tb σ2 ρ2 M0 (k + 1) w' → KR act w') := fun act w' e hk3 hl => by
      rw [hKR]
      refine ⟨⟨_, k + 1, e, hk3, hl⟩, ?_⟩
      have e1 : act.tmps.getD 183 undef = .int .i64 ((k + 1 : Nat) : Int) := by rw [e]; rfl
      have e2 : (fr38g mb n p qv k u).tmps.getD 183 undef = .int .i64 ((k : Nat) : Int) := rfl
      simp only [e1, e2, intOf]
      omega
    rw [← hKR]
    clear hKR
    have HQ := hid_of hQ
    by_cases hk3 : k < 3
    · have hki : ((k : Nat) : Int) < 3 := by omega
      have hadd : IntKind.i64.wrap (((k : Nat) : Int) + 1) = (k : Nat) + 1 := by simp [IntKind.wrap, IntKind.bits, IntKind.signed]; omega
      obtain ⟨M, ρ, a, L, cap, hB, hR, hq, hq0, hL4, hcase⟩ := hL.out.step hX hk3
      have hixk := hix k hk3
      rw [hq0] at hixk
      have hrm : n + 1 ≠ mb := hR.neT hB (by decide)
      have HQK := hid_of hq
      clear hQ hix h0 hL hq0 hq
      rcases hcase with ⟨hz, hH⟩ | ⟨b, off, T, x, hz, hLc, ha, hcell, hbm, hbr, hbT, hT, hcase⟩
      · obtain ⟨w0, rfl, hl0⟩ := hB.out
        rw [put_put] at hH
        have HH := hid_of hH
        subst hz
        clear hH hB hR
        unfold fr38g
        go_wp2_with fail
        exact HKR.out _ _ (by kernel_rfl) hk3 HH.out
      · subst ha
        have hTm : T ≠ mb := hT.neT hB (by decide)
        have hrT : n + 1 ≠ T := hR.neT hT (by decide)
        have hL0 : (0 : Int) < ((L : Nat) : Int) := by omega
        have hL1 : (1 : Int) ≤ ((L : Nat) : Int) := by omega
        have hHall : (x.dn = false ∧ H5 own W0 mb (n + 1) tb σ2 ρ2 M0 (k + 1) (put wr mb (encM { M with tk := upd M.tk k false }) 104)) ∨ (x.dn = true ∧ ∀ w2 n', wr = put (put (put w2 (n + 1) (encR ρ) 41) T (encT x) 148) mb (encM M) 104 → H5 own W0 mb (n + 1) tb σ2 ρ2 M0 (k + 1) ((put (put (put w2 (n + 1) (encR { ρ with r := upd ρ.r k x.an }) 41) T (encT x) 148) mb (encM { M with q := upd M.q k (.slice (some (if cap = 1 then (⟨b, off, none⟩ : Addr) else ⟨b, off + 1, none⟩)) (L - 1) (cap - 1)), tk := upd M.tk k false }) 104).drewN n')) := hcase
        obtain ⟨w0, rfl, hl0⟩ := hB.out
        have hT0 : Blk w0 T (encT x) 148 := (put_heap_ne _ _ _ _ _ hTm).symm.trans hT
        have hR0 : Blk w0 (n + 1) (encR ρ) 41 := (put_heap_ne _ _ _ _ _ hrm).symm.trans hR
        obtain ⟨w1, rfl, hl1⟩ := hT0.out
        have hR1 : Blk w1 (n + 1) (encR ρ) 41 := (put_heap_ne _ _ _ _ _ hrT).symm.trans hR0
        obtain ⟨w2, rfl, hl2⟩ := hR1.out
        simp only [put_size] at hl0 hl1
        rw [put_cell_ne _ _ _ _ _ _ _ hbm, put_cell_ne _ _ _ _ _ _ _ hbT, put_cell_ne _ _ _ _ _ _ _ hbr] at hcell
        have hbl : b < w2.heap.size := World.block_lt_of_cell? _ _ hcell
        clear hcase hB hR hT hT0 hR0 hR1
        rcases hHall with ⟨hdn, hH⟩ | ⟨hdn, hH⟩
        · rw [put_put] at hH
          have HH := hid_of hH
          clear hH
          unfold fr38g
          go_wp2_with fail
          exact HKR.out _ _ (by kernel_rfl) hk3 HH.out
        · have HH : Hid (∀ n', H5 own W0 mb (n + 1) tb σ2 ρ2 M0 (k + 1) ((put (put (put w2 (n + 1) (encR { ρ with r := upd ρ.r k x.an }) 41) T (encT x) 148) mb (encM { M with q := upd M.q k (.slice (some (if cap = 1 then (⟨b, off, none⟩ : Addr) else ⟨b, off + 1, none⟩)) (L - 1) (cap - 1)), tk := upd M.tk k false }) 104).drewN n')) := fun n' => hH w2 n' rfl
          clear hH
          by_cases hc1 : cap = 1
          · subst hc1
            rw [if_pos rfl, show (1 : Nat) - 1 = 0 from rfl, show L - 1 = 0 by omega] at HH
            unfold fr38g
            go_upto_region 58 with fail
            refine wp_region_qtail 7 mixed (by kernel_rfl) ?_
            simp only [List.take_succ_cons, List.take_zero, List.drop_succ_cons, List.drop_zero]
            repeat (go_big_quiet_step (fail))
            refine wpQuiet_nil ?_
            go_wp2_with fail
            exact HKR.out _ _ (by kernel_rfl) hk3 (HH.out _)
          · have hc1' : (cap = 1) = False := by simp [hc1]
            rw [if_neg hc1] at HH
            unfold fr38g
            go_upto_region 58 with fail
            refine wp_region_qtail 7 mixed (by kernel_rfl) ?_
            simp only [List.take_succ_cons, List.take_zero, List.drop_succ_cons, List.drop_zero]
            repeat (go_big_quiet_step (fail))
            refine wpQuiet_nil ?_
            go_wp2_with fail
            exact HKR.out _ _ (by kernel_rfl) hk3 (HH.out _)
    · have hki : ¬ ((k : Nat) : Int) < 3 := by omega
      have HE : k = 3 := by omega
      subst HE
      clear hQ hix h0
      unfold fr38g
      go_wp2_with fail
      exact q_of (Q := fun a => Q (.exit 12) a wr) (F := fr38g mb n p qv 3) (fun u => HQ.out u wr hL.out) _ (by kernel_rfl)
end Go.Proofs.Qxb6500750aDoor
