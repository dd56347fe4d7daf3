import Derived.Test.Qxb6500750aDoorRep
namespace Go.Proofs.Qxb6500750aDoor
open Go.RowKit
attribute [local go_sem] put_size put_cell_same put_cell_ne put_frozen_same put_frozen_ne put_setCell_same put_setCell_ne put_drew
attribute [local go_sem] drewN_setCell drewN_alloc drewN_put
attribute [local go_sem] xg_s0 xg_s1 xg_s2 xg_s3 xg_s4 xg_s5 xg_s6 xg_s7 xg_s8 xg_s9 xg_m0 xg_m1 xg_m2 xg_m3 xg_m4 xg_t0 xg_t1 xg_t2 xg_t3 xg_t4 xg_t5 xg_t6
attribute [local go_sem] mod4_lt mod4_nn mod4_lt'
attribute [local go_sem] xs_s0 xs_s1 xs_s2 xs_s3 xs_s4 xs_s5 xs_s6 xs_s7 xs_s8 xs_s9 xs_m0 xs_m1 xs_m2 xs_m3 xs_m4 xs_t1 xs_t2 xs_t3 xs_t4 xs_t5 xs_t6 xs_sg xs_sr xs_sp rg_rs rg_rp rs_rs rs_rp

structure SS where
  x : XS
  p : Nat → PS
/-- The crossbar and its six links, in the world. -/
structure XRep (own : Nat → Nat) (w : World) (xb : Nat) (pbs : Nat → Nat) (σ : SS) : Prop where
  blk : Blk w xb (encX (lk pbs) σ.x) 132
  oxb : own xb = 6
  port : ∀ s, s < 6 → PR own s w (pbs s) (σ.p s)
theorem XRep.ext {own own' : Nat → Nat} {S : Nat → Prop} {w w' : World} {xb : Nat} {pbs : Nat → Nat} {σ : SS} (h : XRep own w xb pbs σ) (hx : Ext own own' S w w') (hs : ∀ k, k ≤ 6 → ¬ S k) : XRep own' w' xb pbs σ :=
  ⟨h.blk.ext hx (by rw [h.oxb]; exact hs 6 (by omega)), (hx.keep xb h.blk.lt).trans h.oxb, fun s hs' => (h.port s hs').ext hx (hs s (by omega))⟩
/-- The crossbar's own block laid anew. -/
theorem XRep.turn {own : Nat → Nat} {w : World} {xb : Nat} {pbs : Nat → Nat} {σ : SS} (h : XRep own w xb pbs σ) (x' : XS) : XRep own (put w xb (encX (lk pbs) x') 132) xb pbs { σ with x := x' } :=
  ⟨Blk.put_same h.blk.lt, h.oxb, fun s hs => (h.port s hs).ext (Ext.put (S := (· = 6)) h.oxb) (by omega)⟩
/-- One port turned. -/
theorem XRep.port_turned {own own' : Nat → Nat} {w w' : World} {xb : Nat} {pbs : Nat → Nat} {σ : SS} (h : XRep own w xb pbs σ) {t : Nat} (ht : t < 6) {q : PS} (hq : PR own' t w' (pbs t) q) (hx : Ext own own' (· = t) w w') :
    XRep own' w' xb pbs { σ with p := upd σ.p t q } := by
  refine ⟨h.blk.ext hx (by rw [h.oxb]; omega), (hx.keep xb h.blk.lt).trans h.oxb, fun s hs => ?_⟩
  by_cases e : s = t
  · subst e; simp only [upd, if_true]; exact hq
  · simp only [upd, if_neg e]; exact (h.port s hs).ext hx (fun h => e h)

/-! ### What one round of collect does -/
def pS (t : Nat) (q : PS) : Int := if t < 6 then endS q else 2
def pD (t : Nat) (q : PS) : Int := if t < 6 then endD q else 0
def pC (t : Nat) (q : PS) : Int := if t < 6 then tickS q else 0
def again (x : XS) (t : Nat) (c : Int) : Bool := mayRep (slotOf x t).req.w c && decide ((slotOf x t).ret.re < 3) && !(x.tp t).iso && !(x.mp (x.tp t).m.toNat).iso
def ticked (σ : SS) (t : Nat) : SS := if t < 6 then { σ with p := upd σ.p t (tickP (σ.p t)) } else σ
def sent (σ : SS) (t : Nat) : SS := if t < 6 then { σ with p := upd σ.p t (sendP (σ.p t) (mkReq σ.x t)) } else σ
def setSlot (x : XS) (t : Nat) (s : Slot) : XS := x.setS (x.tp t).m.toNat ((x.tp t).sq % 4).toNat s
def retried (x : XS) (t : Nat) : XS := setSlot x t { slotOf x t with ret := { (slotOf x t).ret with re := (slotOf x t).ret.re + 1 } }
def landS (s : Slot) (st da ca : Int) : Slot := { s with ret := { s.ret with st := st, da := da, ca := ca }, ph := 2 }
def collectT (t : Nat) (c : SS × RepD) : SS × RepD :=
  if (c.1.x.tp t).busy = false then c
  else if t < 6 ∧ tickEnds (c.1.p t) = false then (ticked c.1 t, c.2)
  else if (c.1.x.tp t).orph = true then ({ ticked c.1 t with x := c.1.x.setT t { c.1.x.tp t with busy := false, orph := false } }, c.2)
  else if again c.1.x t (pC t (c.1.p t)) = true then
    ({ sent { ticked c.1 t with x := retried c.1.x t } t with x := (retried c.1.x t).setR t (sat (c.1.x.sr t)) }, { c.2 with rs := upd c.2.rs t true })
  else
    let x1 := if pS t (c.1.p t) = 3 then c.1.x.setP t (sat (c.1.x.sp t)) else c.1.x
    ({ ticked c.1 t with x := (setSlot x1 t (landS (slotOf c.1.x t) (pS t (c.1.p t)) (pD t (c.1.p t)) (pC t (c.1.p t)))).setT t { c.1.x.tp t with busy := false } },
      if pS t (c.1.p t) = 3 then { c.2 with rp := upd c.2.rp t true } else c.2)
def collectN : Nat → SS × RepD → SS × RepD
  | 0, c => c
  | n + 1, c => collectT n (collectN n c)
/-- What the round at t asks of the state. -/
structure ColOK (t : Nat) (σ : SS) : Prop where
  m : 0 ≤ (σ.x.tp t).m ∧ (σ.x.tp t).m < 3
  sq : 0 ≤ (σ.x.tp t).sq
  re : 0 ≤ (slotOf σ.x t).ret.re
  sr : 0 ≤ σ.x.sr t ∧ σ.x.sr t < 4294967296
  sp : 0 ≤ σ.x.sp t ∧ σ.x.sp t < 4294967296
  pl : t < 6 → ∀ p ∈ (σ.p t).plans, 0 ≤ p.o ∧ p.o < 6 ∧ 0 ≤ p.l ∧ p.l < 4294967296
  n : t < 6 → (σ.p t).plans.length ≤ 8
  a : t < 6 → (σ.p t).atts.length < 1000000000

def pollV (σ : SS) (t : Nat) : Value := if t < 6 then pollE (σ.p t) else .agg #[.int .u8 2, .int .u32 0, .int .u8 0]
def pollK (σ : SS) (t : Nat) : Bool := if t < 6 then tickEnds (σ.p t) else true
theorem XRep.turn' {own : Nat → Nat} {w : World} {xb : Nat} {pbs : Nat → Nat} {σ : SS} {cs : Array Value} (h : XRep own (put w xb cs 132) xb pbs σ) (x' : XS) : XRep own (put w xb (encX (lk pbs) x') 132) xb pbs { σ with x := x' } := by
  rw [← put_put w xb cs _ 132 132]; exact h.turn x'
theorem ext_put' {own : Nat → Nat} {S : Nat → Prop} {w : World} {b : Nat} {cs cs' : Array Value} {T T' : TypeId} (h : S (own b)) : Ext own own S (put w b cs T) (put w b cs' T') := by
  rw [← put_put w b cs cs' T T']; exact Ext.put h
section
variable (x : XS)
theorem setT_setT (t : Nat) (a b : TP) : (x.setT t a).setT t b = x.setT t b := by
  simp only [XS.setT]; congr 1; funext j; simp only [upd]; split <;> rfl
theorem setT_tp (t : Nat) (a : TP) : (x.setT t a).tp t = a := by simp [XS.setT, upd]
theorem setT_mp (t : Nat) (a : TP) : (x.setT t a).mp = x.mp := rfl
theorem setS_tp (m s : Nat) (a : Slot) : (x.setS m s a).tp = x.tp := rfl
theorem setM_tp (m : Nat) (a : MP) : (x.setM m a).tp = x.tp := rfl
theorem setM_mp (m : Nat) (a : MP) : (x.setM m a).mp m = a := by simp [XS.setM, upd]
theorem setM_setM (m : Nat) (a b : MP) : (x.setM m a).setM m b = x.setM m b := by
  simp only [XS.setM]; congr 1; funext j; simp only [upd]; split <;> rfl
theorem setS_sl (m s : Nat) (a : Slot) : ((x.setS m s a).mp m).sl s = a := by simp [XS.setS, XS.setM, upd]
theorem setS_iso (m s m' : Nat) (a : Slot) : ((x.setS m s a).mp m').iso = (x.mp m').iso := by simp only [XS.setS, XS.setM, upd]; split <;> simp_all
theorem setS_setS (m s : Nat) (a b : Slot) : (x.setS m s a).setS m s b = x.setS m s b := by
  unfold XS.setS; rw [setM_setM, setM_mp]; congr 1; simp only []; congr 1; funext j; simp only [upd]; split <;> rfl
theorem setS_sr (m s : Nat) (a : Slot) : (x.setS m s a).sr = x.sr := rfl
theorem setS_sp (m s : Nat) (a : Slot) : (x.setS m s a).sp = x.sp := rfl
theorem setS_sg (m s : Nat) (a : Slot) : (x.setS m s a).sg = x.sg := rfl
theorem setP_mp (t : Nat) (v : Int) : (x.setP t v).mp = x.mp := rfl
theorem setP_tp (t : Nat) (v : Int) : (x.setP t v).tp = x.tp := rfl
theorem setR_mp (t : Nat) (v : Int) : (x.setR t v).mp = x.mp := rfl
theorem setR_tp (t : Nat) (v : Int) : (x.setR t v).tp = x.tp := rfl
end
theorem pollV_yes (σ : SS) (t : Nat) (h : pollK σ t = true) : pollV σ t = .agg #[.int .u8 (pS t (σ.p t)), .int .u32 (pD t (σ.p t)), .int .u8 (pC t (σ.p t))] := by
  unfold pollV pS pD pC
  unfold pollK at h
  by_cases h6 : t < 6
  · rw [if_pos h6] at h ⊢; rw [if_pos h6, if_pos h6, if_pos h6]; unfold pollE; rw [if_pos h]
  · rw [if_neg h6, if_neg h6, if_neg h6, if_neg h6]
theorem pollV_no (σ : SS) (t : Nat) (h : pollK σ t = false) : t < 6 ∧ tickEnds (σ.p t) = false ∧ pollV σ t = .agg #[.int .u8 0, .int .u32 0, .int .u8 0] := by
  unfold pollV
  unfold pollK at h
  by_cases h6 : t < 6
  · rw [if_pos h6] at h ⊢; refine ⟨h6, h, ?_⟩; unfold pollE; rw [h]; rfl
  · rw [if_neg h6] at h; cases h
theorem pollK_yes (σ : SS) (t : Nat) (h : pollK σ t = true) : ¬ (t < 6 ∧ tickEnds (σ.p t) = false) := by
  unfold pollK at h
  rintro ⟨h6, h2⟩
  rw [if_pos h6, h2] at h; cases h
theorem ticked_x (σ : SS) (t : Nat) : (ticked σ t).x = σ.x := by unfold ticked; split <;> rfl
theorem ticked_plans (σ : SS) (t : Nat) : ((ticked σ t).p t).plans = (σ.p t).plans := by
  unfold ticked; split
  · simp only [upd, if_true]; unfold tickP; split <;> rfl
  · rfl
theorem ticked_atts (σ : SS) (t : Nat) : ((ticked σ t).p t).atts = (σ.p t).atts := by
  unfold ticked; split
  · simp only [upd, if_true]; unfold tickP; split <;> rfl
  · rfl
theorem tickP_idle (q : PS) (h : tickEnds q = true) : (tickP q).busy = false := by
  unfold tickEnds at h
  unfold tickP
  cases hb : q.busy
  · rw [hb] at h; cases h
  · rw [hb] at h; simp only [Bool.true_and] at h; simp only [if_true, h, Bool.not_true]
theorem sent_x (σ : SS) (t : Nat) : (sent σ t).x = σ.x := by unfold sent; split <;> rfl
theorem put_comm (w : World) (b b' : Nat) (cs cs' : Array Value) (T T' : TypeId) (h : b ≠ b') : put (put w b cs T) b' cs' T' = put (put w b' cs' T') b cs T := by
  simp only [put]
  rw [Array.setIfInBounds_comm _ _ h]
theorem XRep.both {own : Nat → Nat} {w : World} {xb rb g : Nat} {pbs : Nat → Nat} {σ : SS} {R X : Array Value} {T : TypeId} (h : XRep own (put (put w rb R T) xb X 132) xb pbs σ) (hg : own rb = g) (h6 : 6 < g) (hne : rb ≠ xb) (R' : Array Value) (x' : XS) :
    XRep own (put (put w rb R' T) xb (encX (lk pbs) x') 132) xb pbs { σ with x := x' } ∧ Ext own own (fun k => k ≤ 6 ∨ k = g) (put (put w rb R T) xb X 132) (put (put w rb R' T) xb (encX (lk pbs) x') 132) := by
  have e : put (put w rb R' T) xb (encX (lk pbs) x') 132 = put (put (put w rb R T) xb (encX (lk pbs) x') 132) rb R' T := by
    rw [put_comm (put w rb R T) xb rb _ _ _ _ (Ne.symm hne), put_put]
  have hx := h.oxb
  rw [e]
  refine ⟨(h.turn' x').ext (Ext.put (S := (· = g)) hg) (fun k hk e => by omega), ?_⟩
  exact (ext_put' (.inl (by omega))).trans (Ext.put (.inr hg))
theorem bits_or_u8 (f : Nat → Bool) (t : Nat) (h : t < 7) : bits BinOp.or IntKind.u8 (bitsV f) (2 ^ t % 256) = bitsV (upd f t true) := by
  have h1 : (2 : Int) ^ t % 256 = 2 ^ t := by rcases seven t h with rfl | rfl | rfl | rfl | rfl | rfl | rfl <;> rfl
  have h2 := bits_or f t h
  have h3 := bitsV_range (upd f t true)
  rw [h1]
  unfold bits
  show IntKind.u8.wrap (((BitVec.ofInt 8 (bitsV f) ||| BitVec.ofInt 8 (2 ^ t)).toNat : Nat) : Int) = _
  rw [h2]
  have h4 : ∀ n : Int, 0 ≤ n → n < 128 → IntKind.u8.wrap n = n := fun n a b => by simp [IntKind.wrap, IntKind.bits, IntKind.signed]; omega
  exact h4 _ h3.1 h3.2
theorem bump_blk (b o : Nat) (cs : Array Value) (T : TypeId) (c : Int) (hc : 0 ≤ c ∧ c < 4294967296) (w : World) (hB : Blk w b cs T) (ho : cs[o]? = some (.int .u32 c)) :
    Calls Tryd.prog 64 #[.pointer (some ⟨b, o, none⟩)] w fun e w' => e = .returned (.tuple #[]) ∧ w' = put w b (cs.setIfInBounds o (.int .u32 (sat c))) T := by
  obtain ⟨w0, rfl, hl⟩ := hB.out
  rw [put_put]
  exact bump_any b o cs T c hc w0 hl ho
/-! ### poll and send, at the crossbar -/
theorem poll_x (own : Nat → Nat) (xb t : Nat) (pbs : Nat → Nat) (σ : SS) (ht : t < 7) (w : World) (h : XRep own w xb pbs σ) :
    Calls Tryd.prog 61 #[.pointer (some ⟨xb, 135 + t * 7, none⟩)] w fun e w' => e = .returned (.tuple #[pollV σ t, .bool (pollK σ t)]) ∧ ∃ own', XRep own' w' xb pbs (ticked σ t) ∧ Ext own own' (· ≤ 6) w w' := by
  have hc := h.blk.cell (135 + t * 7)
  rw [xg_t0 _ _ t ht] at hc
  unfold pollV pollK ticked
  by_cases h6 : t < 6
  · rw [lk_lt _ _ h6] at hc
    rw [if_pos h6, if_pos h6, if_pos h6]
    refine (poll_link own t (pbs t) xb _ (σ.p t) (by omega) w hc (h.port t h6)).mono ?_
    rintro e w' ⟨rfl, own', h1, h2⟩
    exact ⟨rfl, own', h.port_turned h6 h1 h2, h2.mono (fun k e => by omega)⟩
  · have : t = 6 := by omega
    subst this
    rw [lk_6] at hc
    rw [if_neg h6, if_neg h6, if_neg h6]
    refine (poll_none xb _ w hc).mono ?_
    rintro e w' ⟨rfl, h1⟩
    exact ⟨rfl, own, h.ext (Ext.of_below (S := fun _ => False) h1) (fun _ _ h => h), Ext.of_below h1⟩
theorem xsend_none (xb : Nat) (pbs : Nat → Nat) (x : XS) (w : World) (hB : Blk w xb (encX (lk pbs) x) 132) :
    Calls Tryd.prog 63 #[.pointer (some ⟨xb, 0, none⟩), .pointer (some ⟨xb, 135 + 6 * 7, none⟩)] w fun e w' => e = .returned (.tuple #[]) ∧ w' = w := by
  have hc := hB.cell (135 + 6 * 7)
  rw [xg_t0 _ _ 6 (by omega), lk_6] at hc
  go_enter Tryd.func63, Tryd.ntmps63
  go_wp2_with fail
  refine bodyPost_ret (results_none rfl _ _ _) rfl ?_
  exact ⟨rfl, rfl⟩
theorem send_x (own : Nat → Nat) (xb t : Nat) (pbs : Nat → Nat) (σ : SS) (ht : t < 7) (hm : 0 ≤ (σ.x.tp t).m ∧ (σ.x.tp t).m < 3) (hs : 0 ≤ (σ.x.tp t).sq) (hb : t < 6 → (σ.p t).busy = false)
    (hpl : t < 6 → ∀ p ∈ (σ.p t).plans, 0 ≤ p.o ∧ p.o < 6 ∧ 0 ≤ p.l ∧ p.l < 4294967296) (hn : t < 6 → (σ.p t).plans.length ≤ 8) (ha : t < 6 → (σ.p t).atts.length < 1000000000) (w : World) (h : XRep own w xb pbs σ) :
    Calls Tryd.prog 63 #[.pointer (some ⟨xb, 0, none⟩), .pointer (some ⟨xb, 135 + t * 7, none⟩)] w fun e w' => e = .returned (.tuple #[]) ∧ ∃ own', XRep own' w' xb pbs (sent σ t) ∧ Ext own own' (· ≤ 6) w w' := by
  unfold sent
  by_cases h6 : t < 6
  · rw [if_pos h6]
    refine (xsend_link own xb t pbs σ.x (σ.p t) h6 hm hs (hb h6) w h.blk (h.port t h6) (hpl h6) (hn h6) (ha h6)).mono ?_
    rintro e w' ⟨rfl, own', h1, h2⟩
    exact ⟨rfl, own', h.port_turned h6 h1 h2, h2.mono (fun k e => by omega)⟩
  · have : t = 6 := by omega
    subst this
    rw [if_neg h6]
    refine (xsend_none xb pbs σ.x w h.blk).mono ?_
    rintro e w' ⟨rfl, hw⟩
    obtain rfl := hw.symm
    exact ⟨rfl, own, h, Ext.refl _ _ _⟩

end Go.Proofs.Qxb6500750aDoor
