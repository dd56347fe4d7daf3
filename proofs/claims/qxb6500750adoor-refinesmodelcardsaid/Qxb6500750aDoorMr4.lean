import Derived.Test.Qxb6500750aDoorMr3
namespace Go.Proofs.Qxb6500750aDoor
open Go.RowKit
/-! ### A grant, in the machine -/
/-- What a send leaves, at a slave or at the error slave. -/
structure SentOK (own : Nat → Nat) (w w' : World) (mb t : Nat) (M : MA) (qs : PS) (own' : Nat → Nat) (g' : TG) : Prop where
  blk : Blk w' mb (encM { M with tg := upd M.tg t g' }) 104
  wm : g'.wm = (M.tg t).wm
  sv : g'.sv = (M.tg t).sv
  tu : g'.tu = (M.tg t).tu
  is : g'.is = (M.tg t).is
  mem : MapB w' g'.wm (if t < 6 then qs.mem else fun _ => 0)
  pl : Sl w' g'.pv 57 2 (if t < 6 then qs.plans.length else 0) (if t < 6 then qs.plans.flatMap planRow else [])
  ac : Sl w' g'.av 54 4 (if t < 6 then (acts qs).length else 0) (if t < 6 then (acts qs).flatMap lreqRow else [])
  lf : g'.lf = (if t < 6 then (if qs.due = 0 then 64 else qs.due) - qs.wt else 1) ∧ g'.en = (if t < 6 then (if qs.due = 0 then 4 else qs.rst) else 0) ∧ g'.rd = (if t < 6 then (if qs.due = 0 then 0 else qs.rda) else 0)
  opl : ∀ k, g'.pv.ownBlock = some k → own' k = 70 + t
  oac : ∀ k, g'.av.ownBlock = some k → own' k = 80 + t
  ext : Ext own own' (fun k => k = 30 ∨ k = 60 + t ∨ k = 80 + t) w w'
/-- The send of the target t, in a world where the machine's record of it stands. -/
theorem sent_any {own : Nat → Nat} {w : World} {mb b t : Nat} (ht : t < 7) {M : MA} {x : TX} {qs : PS} (hB : Blk w mb (encM M) 104) (hx : Blk w b (encT x) 148) (hsv : (M.tg t).sv = .pointer (some ⟨b, 0, none⟩))
    (hmem : MapB w (M.tg t).wm (if t < 6 then qs.mem else fun _ => 0)) (hpl : Sl w (M.tg t).pv 57 2 (if t < 6 then qs.plans.length else 0) (if t < 6 then qs.plans.flatMap planRow else [])) (hac : Sl w (M.tg t).av 54 4 (if t < 6 then (acts qs).length else 0) (if t < 6 then (acts qs).flatMap lreqRow else []))
    (hm : 0 ≤ x.m ∧ x.m < 3) (hq : 0 ≤ x.q) (hpo : t < 6 → ∀ p ∈ qs.plans, planOK p) (hn8 : t < 6 → qs.plans.length ≤ 8) (ha : t < 6 → (acts qs).length < 1000000000)
    (omb : own mb = 30) (owm : own (M.tg t).wm = 60 + t) (opl : ∀ k, (M.tg t).pv.ownBlock = some k → own k = 70 + t) (oac : ∀ k, (M.tg t).av.ownBlock = some k → own k = 80 + t) :
    Calls Tryd.prog 54 #[.pointer (some ⟨mb, 0, none⟩), .int .i64 (t : Nat)] w fun e w' => e = .returned (.tuple #[]) ∧ ∃ own' g', SentOK own w w' mb t M (sendP qs (lreqOf x)) own' g' := by
  by_cases h6 : t < 6
  · rw [if_pos h6] at hmem
    rw [if_pos h6, if_pos h6] at hpl hac
    refine (msend_any mb b t h6 M x qs w hB hx hsv hpl hac hmem hm hq (hpo h6) (hn8 h6) (ha h6)).mono ?_
    rintro e w' ⟨rfl, hS⟩
    obtain ⟨g', s1, s2, s3, s4, s5, s6, s7, s8, s9, s10, s11, s12, s13⟩ := hS.out
    refine ⟨rfl, mark own w.heap.size (80 + t), g', s1, s2, s3, s4, s5, ?_, ?_, ?_, ?_, ?_, ?_, ?_⟩
    · rw [if_pos h6, s2]; exact s6
    · rw [if_pos h6, if_pos h6]; exact s7
    · rw [if_pos h6, if_pos h6]; exact s8
    · rw [if_pos h6, if_pos h6, if_pos h6]
      have hw0 : (sendP qs (lreqOf x)).wt = 0 := rfl
      exact ⟨by rw [s9, hw0]; omega, s10, s11⟩
    · intro k hk
      have h9 := s12 k hk
      rw [mark_lt (hpl.lt k h9)]; exact opl k h9
    · intro k hk
      rcases s13 k hk with h9 | h9
      · rw [mark_lt (hac.lt k h9)]; exact oac k h9
      · exact mark_ge h9
    · exact ⟨hS.os, hS.tape, hS.output, hS.size, fun k hk => mark_lt hk, fun k hk hn => hS.block k hk (fun e => hn (.inl (by rw [e]; exact omb))) (fun e => hn (.inr (.inl (by rw [e]; exact owm)))) (fun e => hn (.inr (.inr (oac k e))))⟩
  · have e6 : t = 6 := by omega
    refine (msend_six mb t e6 M w hB).mono ?_
    rintro e w' ⟨rfl, rfl⟩
    have hne : ∀ k, own k ≠ 30 → k ≠ mb := fun k hk e => hk (by rw [e]; exact omb)
    rw [if_neg h6] at hmem
    rw [if_neg h6, if_neg h6] at hpl hac
    refine ⟨rfl, own, _, Blk.put_same hB.lt, rfl, rfl, rfl, rfl, ?_, ?_, ?_, ?_, opl, oac, Ext.put (.inl omb)⟩
    · rw [if_neg h6]; exact hmem.same (put_heap_ne _ _ _ _ _ (hne _ (by omega)))
    · rw [if_neg h6, if_neg h6]; exact hpl.same fun k hk => put_heap_ne _ _ _ _ _ (hne k (by rw [opl k hk]; omega))
    · rw [if_neg h6, if_neg h6]; exact hac.same fun k hk => put_heap_ne _ _ _ _ _ (hne k (by rw [oac k hk]; omega))
    · rw [if_neg h6, if_neg h6, if_neg h6]; exact ⟨rfl, rfl, rfl⟩
/-- The state behind a grant. -/
def grS (σ : SS) (t m : Nat) : SS := { sent { σ with x := grantX σ.x t m } t with x := (grantX σ.x t m).setG t (sat (σ.x.sg t)) }
def grT (σ : SS) (m : Nat) : TX := { txOf σ.x m (σ.x.mp m).gr with gr := true }
def grG (tb : Nat → Int → Nat) (σ : SS) (m : Nat) (g : TG) : TG := { g with sv := .pointer (some ⟨tb m (σ.x.mp m).gr, 0, none⟩), tu := ((m : Nat) + 1) % 3 }
theorem grS_p (σ : SS) (t m s : Nat) : (grS σ t m).p s = if s = t ∧ t < 6 then sendP (σ.p t) (lreqOf (grT σ m)) else σ.p s := by
  show (sent { σ with x := grantX σ.x t m } t).p s = _
  rw [sent_p]
  have e : mkReq (grantX σ.x t m) t = lreqOf (grT σ m) := by
    unfold mkReq slotOf lreqOf grT txOf slq
    rw [grantX_tp]
    simp only [Int.toNat_natCast]
    rw [grantX_mp, if_pos rfl]
    unfold gMP
    simp only [upd_same]
  show (if s = t ∧ t < 6 then sendP (σ.p t) (mkReq (grantX σ.x t m) t) else σ.p s) = _
  rw [e]
theorem grS_tx {N : Int} {A : Nat} {σ : SS} (hX : XInv N A σ) {t m : Nat} (hm : m < 3) (hg : (σ.x.mp m).gr < (σ.x.mp m).iss) {m' : Nat} (_hm' : m' < 3) {q : Int} (h1 : (σ.x.mp m').rt ≤ q) (h2 : q < (σ.x.mp m').iss) :
    txOf (grS σ t m).x m' q = if m' = m ∧ q = (σ.x.mp m).gr then grT σ m else txOf σ.x m' q := by
  have emp : (grS σ t m).x.mp m' = if m' = m then gMP (σ.x.mp m) else σ.x.mp m' := grantX_mp σ.x t m m'
  by_cases e : m' = m
  · subst e
    rw [if_pos rfl] at emp
    have hc := hX.cnt m' hm
    have hw := hX.wait m' (σ.x.mp m').gr hm (Int.le_refl _) hg
    by_cases eq : q = (σ.x.mp m').gr
    · subst eq
      rw [if_pos ⟨rfl, rfl⟩]
      unfold txOf grT txOf slq
      rw [emp]
      unfold gMP
      simp only [upd_same]
      have hw' : ((σ.x.mp m').sl ((σ.x.mp m').gr % 4).toNat).ph = 0 := hw
      rw [hw', decide_eq_true (by omega)]
      rfl
    · rw [if_neg (fun h => eq h.2)]
      unfold txOf slq
      rw [emp]
      unfold gMP
      simp only []
      rw [upd_ne _ _ _ _ (fun h => eq (window hc.1 h1 (by omega) hc.2.1 (by omega) h))]
      have : decide (q < (σ.x.mp m').gr + 1) = decide (q < (σ.x.mp m').gr) := by
        by_cases h : q < (σ.x.mp m').gr
        · rw [decide_eq_true h, decide_eq_true (by omega)]
        · rw [decide_eq_false h, decide_eq_false (by omega)]
      rw [this]
  · rw [if_neg e] at emp
    rw [if_neg (fun h => e h.1)]
    unfold txOf slq
    rw [emp]
theorem MR.grant {N : Int} {A : Nat} {σ : SS} (hX : XInv N A σ) {own own' : Nat → Nat} {w w1 w' : World} {mb rb : Nat} {M : MA} {tb : Nat → Int → Nat} {t m : Nat} (ht : t < 7) (hm : m < 3) (h : MR own w mb M tb σ) (hb : (σ.x.tp t).busy = false) (hg : (σ.x.mp m).gr < (σ.x.mp m).iss) {g' : TG} (hrb : own rb = 49)
    (h1 : Blk w1 (tb m (σ.x.mp m).gr) (encT (grT σ m)) 148) (hz : w1.heap.size = w.heap.size) (hos : w1.os = w.os ∧ w1.tape = w.tape ∧ w1.output = w.output) (hs1 : ∀ k, k ≠ mb → k ≠ tb m (σ.x.mp m).gr → k ≠ rb → w1.heap[k]? = w.heap[k]?)
    (hS : SentOK own w1 w' mb t { M with tg := upd M.tg t (grG tb σ m (M.tg t)) } (sendP (σ.p t) (lreqOf (grT σ m))) own' g') :
    MR own' w' mb { M with tg := upd M.tg t g' } tb (grS σ t m) ∧ Ext own own' (SR t) w w' := by
  have ho : (σ.x.tp t).orph = false := by
    cases h9 : (σ.x.tp t).orph
    · rfl
    · rw [hX.orp t ht h9] at hb; cases hb
  have hcn := hX.cnt m hm
  have hT := h.tx m hm (σ.x.mp m).gr (by omega) hg
  have hoT := h.otx m hm (σ.x.mp m).gr (by omega) hg
  have hne : ∀ b, own b ≠ 30 → b ≠ mb := fun b hb e => hb (by rw [e]; exact h.omb)
  have hkb : ∀ b, b < w.heap.size → own b ≠ 30 → own b ≠ 49 → b ≠ tb m (σ.x.mp m).gr → own b ≠ 60 + t → own b ≠ 80 + t → w'.heap[b]? = w.heap[b]? := fun b hb h1 h2 h3 h4 h5 =>
    (hS.ext.block b (by omega) (by omega)).trans (hs1 b (hne b h1) h3 (fun e => h2 (by rw [e]; exact hrb)))
  have hext : Ext own own' (SR t) w w' := ⟨hS.ext.os.trans hos.1, hS.ext.tape.trans hos.2.1, hS.ext.output.trans hos.2.2, by have := hS.ext.size; omega, fun b hb => hS.ext.keep b (by omega), fun b hb hs => by
    unfold SR at hs
    exact hkb b hb (by omega) (by omega) (fun e => by rw [e] at hs; omega) (by omega) (by omega)⟩
  have hmp : ∀ m', ((grS σ t m).x.mp m').iss = (σ.x.mp m').iss ∧ ((grS σ t m).x.mp m').rt = (σ.x.mp m').rt ∧ ((grS σ t m).x.mp m').tk = (σ.x.mp m').tk ∧ ((grS σ t m).x.mp m').iso = (σ.x.mp m').iso := fun m' => by
    have emp : (grS σ t m).x.mp m' = if m' = m then gMP (σ.x.mp m) else σ.x.mp m' := grantX_mp σ.x t m m'
    rw [emp]
    by_cases e : m' = m
    · subst e; rw [if_pos rfl]; exact ⟨rfl, rfl, rfl, rfl⟩
    · rw [if_neg e]; exact ⟨rfl, rfl, rfl, rfl⟩
  have htp : ∀ τ, (grS σ t m).x.tp τ = if τ = t then { σ.x.tp t with busy := true, m := (m : Nat), sq := (σ.x.mp m).gr, turn := ((m : Int) + 1) % 3 } else σ.x.tp τ := fun τ => grantX_tp' σ.x t m τ
  have htt := htp t
  rw [if_pos rfl] at htt
  have hpt : t < 6 → (grS σ t m).p t = sendP (σ.p t) (lreqOf (grT σ m)) := fun h6 => by rw [grS_p, if_pos ⟨rfl, h6⟩]
  have hblk : Blk w' mb (encM { M with tg := upd M.tg t g' }) 104 := by have := hS.blk; rw [MA.two] at this; exact this
  have kwm := hS.wm
  have ksv := hS.sv
  have ktu := hS.tu
  have kis := hS.is
  simp only [upd_same] at kwm ksv ktu kis
  have k := h.tgt t ht
  refine ⟨h.round ht (fun b => b = tb m (σ.x.mp m).gr) hext (fun b hb h34 hn => hkb b hb (by omega) (by omega) hn (by omega) (by omega)) ?_ hblk (fun m' _ => hmp m') (fun τ _ e => ⟨by rw [htp, if_neg e], by rw [grS_p, if_neg (fun q => e q.1)]⟩) ?_ ?_ ?_ hS.opl hS.oac ?_, hext⟩
  · rintro τ hτ hne h1 h2 b hb rfl
    obtain ⟨b', y, z1, z2, z3, z4⟩ := (h.tgt τ hτ).gone h1 h2
    have : b' = tb m (σ.x.mp m).gr := by rw [z1] at hb; injection hb with hb; injection hb with hb; injection hb
    exact z4 m _ hm (by omega) hg this
  · intro m' hm' q q1 q2
    rw [grS_tx hX hm hg hm' q1 q2]
    by_cases e : m' = m ∧ q = (σ.x.mp m).gr
    · obtain ⟨rfl, rfl⟩ := e
      rw [if_pos ⟨rfl, rfl⟩]
      exact (hS.ext.block _ (by have := hT.lt; omega) (by omega)).trans h1
    · rw [if_neg e]
      have ho' := h.otx m' hm' q q1 q2
      refine (hkb _ (h.tx m' hm' q q1 q2).lt (by omega) (by omega) (fun hb => ?_) (by omega) (by omega)).trans (h.tx m' hm' q q1 q2)
      exact e (h.inj m' q m _ hm' hm q1 q2 (by omega) hg hb)
  · refine ⟨?_, ?_, ?_, ?_, ?_, ?_, ?_, ?_, ?_⟩
    · have h9 := hS.mem
      by_cases h6 : t < 6
      · rw [if_pos h6] at h9 ⊢; rw [hpt h6]; exact h9
      · rw [if_neg h6] at h9 ⊢; exact h9
    · have h9 := hS.pl
      by_cases h6 : t < 6
      · simp only [if_pos h6] at h9 ⊢; rw [hpt h6]; exact h9
      · simp only [if_neg h6] at h9 ⊢; exact h9
    · have h9 := hS.ac
      by_cases h6 : t < 6
      · simp only [if_pos h6] at h9 ⊢; rw [hpt h6]; exact h9
      · simp only [if_neg h6] at h9 ⊢; exact h9
    · rw [htt]; exact fun q => by cases q
    · intro _
      have hmo : mo (grS σ t m).x t = m := by unfold mo; rw [htt]; exact Int.toNat_natCast m
      rw [hmo, htt, ksv]; rfl
    · rw [htt]; intro _ h2
      have h2 : (σ.x.tp t).orph = true := h2
      rw [ho] at h2; cases h2
    · intro _
      have h9 := hS.lf
      by_cases h6 : t < 6
      · simp only [if_pos h6] at h9 ⊢; rw [hpt h6]; exact h9
      · simp only [if_neg h6] at h9 ⊢; exact h9
    · rw [htt, ktu]; rfl
    · rw [htt, kis]; exact k.iso
  · rw [kwm]
    exact (hS.ext.keep _ (by rw [hz]; exact k.words.lt)).trans (h.owm t ht)
  · rw [htt]; intro _ h2
    have h2 : (σ.x.tp t).orph = true := h2
    rw [ho] at h2; cases h2
end Go.Proofs.Qxb6500750aDoor
