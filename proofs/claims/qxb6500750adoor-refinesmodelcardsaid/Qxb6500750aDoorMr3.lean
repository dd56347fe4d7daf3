import Derived.Test.Qxb6500750aDoorMr2
import Derived.Test.Qxb6500750aDoorMco
namespace Go.Proofs.Qxb6500750aDoor
open Go.RowKit
/-! ### The end of a sending, in the machine -/
theorem MA.two (M : MA) (t : Nat) (g g' : TG) : ({ { M with tg := upd M.tg t g } with tg := upd ({ M with tg := upd M.tg t g } : MA).tg t g' } : MA) = { M with tg := upd M.tg t g' } := by
  show ({ M with tg := upd (upd M.tg t g) t g' } : MA) = _
  rw [upd_upd]
/-- How the sending at t ends, as target and link say it. -/
theorem MR.ends {N : Int} {A : Nat} {σ : SS} (hX : XInv N A σ) {own : Nat → Nat} {w : World} {mb : Nat} {M : MA} {tb : Nat → Int → Nat} {t : Nat} (ht : t < 7) (h : MR own w mb M tb σ) (hb : (σ.x.tp t).busy = true) (he : t < 6 → tickEnds (σ.p t) = true) :
    (M.tg t).en = pC t (σ.p t) ∧ stM t (M.tg t).en = pS t (σ.p t) ∧ (if t ≠ 6 ∧ (M.tg t).en = 0 then (M.tg t).rd else 0) = pD t (σ.p t) ∧ 0 ≤ (M.tg t).en ∧ (M.tg t).en < 5 := by
  obtain ⟨l1, l2, l3⟩ := (h.tgt t ht).left hb
  by_cases h6 : t < 6
  · rw [if_pos h6] at l2 l3
    have hpb : (σ.p t).busy = true := (hX.busy t h6).symm.trans hb
    obtain ⟨e1, e2⟩ := (left_ends (hX.port t h6) hpb).2 (he h6)
    rw [← e1] at l2; rw [← e2] at l3
    obtain ⟨w0, w1, lt, _, hd, hr, hw, hpo⟩ := (hX.port t h6).pend hpb
    unfold pC pS pD endS endD stM
    rw [if_pos h6, if_pos h6, if_pos h6, l2, l3, if_neg (by omega)]
    refine ⟨rfl, ?_, ?_, ?_⟩
    · by_cases z : tickS (σ.p t) = 0
      · rw [if_pos z, z]; rfl
      · rw [if_neg z]
        have z' : (tickS (σ.p t) == 0) = false := by simpa using z
        rw [z']
        by_cases z1 : tickS (σ.p t) = 1
        · rw [if_pos z1, z1]; rfl
        · rw [if_neg z1]
          have z1' : (tickS (σ.p t) == 1) = false := by simpa using z1
          rw [z1']; rfl
    · by_cases z : tickS (σ.p t) = 0
      · rw [if_pos ⟨by omega, z⟩, z]; rfl
      · rw [if_neg (fun q => z q.2)]
        have z' : (tickS (σ.p t) == 0) = false := by simpa using z
        rw [z']; rfl
    · rw [e1, hr]
      unfold sendStatus
      repeat' split
      all_goals omega
  · have e6 : t = 6 := by omega
    rw [if_neg h6] at l2 l3
    unfold pC pS pD stM
    rw [if_neg h6, if_neg h6, if_neg h6, l2, if_pos e6, if_neg (fun q => q.1 e6)]
    exact ⟨rfl, rfl, rfl, by omega, by omega⟩
theorem MR.colLand {N : Int} {A : Nat} {c : SS × RepD} (hX : XInv N A c.1) (hC : Clean c.1.x) {own : Nat → Nat} {w w' : World} {mb rb : Nat} {M : MA} {tb : Nat → Int → Nat} {t : Nat} (ht : t < 7) (h : MR own w mb M tb c.1) (hf : flying c.1.x t) (he : t < 6 → tickEnds (c.1.p t) = true)
    (hag : again c.1.x t (pC t (c.1.p t)) = false) (l : Int) (hrb : own rb = 49)
    (hP : LandPost (put w mb (encM { M with tg := upd M.tg t { M.tg t with lf := l } }) 104) w' mb (tb (mo c.1.x t) (c.1.x.tp t).sq) t rb { M with tg := upd M.tg t { M.tg t with lf := l } } (txOf c.1.x (mo c.1.x t) (c.1.x.tp t).sq) c.2) :
    MR own w' mb { M with tg := upd M.tg t { M.tg t with lf := l, sv := .pointer none } } tb (collectT t c).1 ∧ Blk w' rb (encR (collectT t c).2) 41 ∧ Ext own own (SR t) w w' := by
  obtain ⟨d1, d2, d3, _⟩ := h.ends hX ht hf.1 he
  have e : collectT t c = ({ ticked c.1 t with x := (setSlot (if pS t (c.1.p t) = 3 then c.1.x.setP t (sat (c.1.x.sp t)) else c.1.x) t (landS (slotOf c.1.x t) (pS t (c.1.p t)) (pD t (c.1.p t)) (pC t (c.1.p t)))).setT t { c.1.x.tp t with busy := false } },
      if pS t (c.1.p t) = 3 then { c.2 with rp := upd c.2.rp t true } else c.2) := by
    unfold collectT
    rw [if_neg (by rw [hf.1]; exact Bool.noConfusion), if_neg (fun hh => by rw [he hh.1] at hh; cases hh.2), if_neg (by rw [hf.2]; exact Bool.noConfusion), if_neg (by rw [hag]; exact Bool.noConfusion)]
  have k := h.tgt t ht
  have hm3 : mo c.1.x t < 3 := by have := hX.tm t ht; unfold mo; omega
  obtain ⟨f1, f2, f3⟩ := hX.fly t ht hf
  have hcn := hX.cnt _ hm3
  have ho := h.otx (mo c.1.x t) hm3 (c.1.x.tp t).sq f1 (by omega)
  have hne : ∀ b, own b ≠ 30 → b ≠ mb := fun b hb e => hb (by rw [e]; exact h.omb)
  have hsame : ∀ b, own b ≠ 30 → own b ≠ 49 → b ≠ tb (mo c.1.x t) (c.1.x.tp t).sq → w'.heap[b]? = w.heap[b]? := fun b h1 h2 h3 =>
    (hP.block b (hne b h1) h3 (fun e => h2 (by rw [e]; exact hrb))).trans (put_heap_ne _ _ _ _ _ (hne b h1))
  have hsame' : ∀ b, own b ≠ 30 → own b ≠ 49 → own b ≠ 34 → w'.heap[b]? = w.heap[b]? := fun b h1 h2 h3 => hsame b h1 h2 (fun e => h3 (by rw [e]; exact ho))
  have howm := h.owm t ht
  have hext : Ext own own (SR t) w w' := ⟨hP.os, hP.tape, hP.output, by rw [hP.size, put_size]; exact Nat.le_refl _, fun _ _ => rfl, fun b hb hs => by
    unfold SR at hs
    exact hsame' b (by omega) (by omega) (by omega)⟩
  obtain ⟨b1, b2, b3, b4, b5, b6⟩ := collectT_else t c
  have hb' : ((collectT t c).1.x.tp t).busy = false := by rw [e]; show ((XS.setT _ t _).tp t).busy = false; rw [setT_tp]
  have hsl : slq (collectT t c).1.x (mo c.1.x t) (c.1.x.tp t).sq = landS (slotOf c.1.x t) (pS t (c.1.p t)) (pD t (c.1.p t)) (pC t (c.1.p t)) := by
    rw [e]
    show slq (XS.setT _ t _) _ _ = _
    unfold slq setSlot
    rw [setT_mp]
    have hh : ∀ x1 : XS, x1.tp = c.1.x.tp → ∀ a, (((x1.setS (x1.tp t).m.toNat ((x1.tp t).sq % 4).toNat a).mp (mo c.1.x t)).sl ((c.1.x.tp t).sq % 4).toNat) = a := fun x1 e1 a => by
      rw [e1, setS_get]; rw [if_pos ⟨rfl, rfl⟩]
    split
    · exact hh (c.1.x.setP t (sat (c.1.x.sp t))) rfl _
    · exact hh c.1.x rfl _
  have htxe : landM t (upd M.tg t { M.tg t with lf := l } t) (txOf c.1.x (mo c.1.x t) (c.1.x.tp t).sq) = txOf (collectT t c).1.x (mo c.1.x t) (c.1.x.tp t).sq := by
    rw [upd_same]
    unfold landM txOf
    rw [hsl, (b3 _).2.1]
    have hda : (slq c.1.x (mo c.1.x t) (c.1.x.tp t).sq).ret.da = 0 := hC.1 t ht hf
    have hsq : slotOf c.1.x t = slq c.1.x (mo c.1.x t) (c.1.x.tp t).sq := rfl
    simp only [landS, hda, d1] at d2 d3 ⊢
    rw [d2, d3, hsq]
    rfl
  have hblk : Blk w' mb (encM { M with tg := upd M.tg t { M.tg t with lf := l, sv := .pointer none } }) 104 := by
    have h9 := hP.mch
    rw [MA.two] at h9
    simp only [upd_same] at h9
    exact h9
  refine ⟨h.col hX ht (own' := own) hext (fun b hb h34 hn => hsame b (by omega) (by omega) (fun e => hn ⟨hf, e⟩)) hblk (fun _ => ?_) ?_ howm (h.opl t ht) (h.oac t ht) (fun h1 => by rw [hb'] at h1; cases h1), ?_, hext⟩
  · rw [← htxe]; exact hP.tx
  · refine k.freed hb' (by rw [e]; exact tk_p _ _) (b4 t).2.2.1 (b4 t).2.2.2 rfl rfl rfl rfl rfl rfl (hsame' _ (by omega) (by omega) (by omega)) (fun b hb => ?_) (fun b hb => ?_)
    · have := h.opl t ht b hb; exact hsame' b (by omega) (by omega) (by omega)
    · have := h.oac t ht b hb; exact hsame' b (by omega) (by omega) (by omega)
  · have h9 := hP.rep
    simp only [upd_same] at h9
    rw [d2] at h9
    rw [e]
    exact h9
theorem MR.again_eq {N : Int} {A : Nat} {σ : SS} (hX : XInv N A σ) {own : Nat → Nat} {w : World} {mb : Nat} {M : MA} {tb : Nat → Int → Nat} {t : Nat} (ht : t < 7) (h : MR own w mb M tb σ) (hb : (σ.x.tp t).busy = true) (he : t < 6 → tickEnds (σ.p t) = true) (l : Int) :
    againM { M with tg := upd M.tg t { M.tg t with lf := l } } t (txOf σ.x (mo σ.x t) (σ.x.tp t).sq) = again σ.x t (pC t (σ.p t)) := by
  obtain ⟨d1, _⟩ := h.ends hX ht hb he
  have hm3 : mo σ.x t < 3 := by have := hX.tm t ht; unfold mo; omega
  unfold againM again
  show (mayRep (slotOf σ.x t).req.w (upd M.tg t { M.tg t with lf := l } t).en && decide ((slotOf σ.x t).ret.re < 3) && !(upd M.tg t { M.tg t with lf := l } t).is && !(M.ba ((mo σ.x t : Nat) : Int).toNat)) = _
  rw [upd_same, Int.toNat_natCast, h.ba _ hm3]
  show (mayRep (slotOf σ.x t).req.w (M.tg t).en && decide ((slotOf σ.x t).ret.re < 3) && !(M.tg t).is && !(σ.x.mp (mo σ.x t)).iso) = _
  rw [d1, (h.tgt t ht).iso]
  rfl
theorem MR.colAgain {N : Int} {A : Nat} {c : SS × RepD} (hX : XInv N A c.1) {own : Nat → Nat} {w w1 w' : World} {mb rb : Nat} {M : MA} {tb : Nat → Int → Nat} {t : Nat} (ht6 : t < 6) (h : MR own w mb M tb c.1) (hf : flying c.1.x t) (he : tickEnds (c.1.p t) = true)
    (hag : again c.1.x t (pC t (c.1.p t)) = true) (hrs : c.2.rs t = false) (hrp : c.2.rp t = false) (l : Int) (hrb : own rb = 49)
    (hP : AgainMid (put w mb (encM { M with tg := upd M.tg t { M.tg t with lf := l } }) 104) w1 mb (tb (mo c.1.x t) (c.1.x.tp t).sq) t rb { M with tg := upd M.tg t { M.tg t with lf := l } } (txOf c.1.x (mo c.1.x t) (c.1.x.tp t).sq) c.2)
    (hS : SendPost w1 w' mb t { M with tg := upd M.tg t { M.tg t with lf := l } } (tkL t (c.1.p t)) (reM (txOf c.1.x (mo c.1.x t) (c.1.x.tp t).sq))) :
    ∃ own' g', MR own' w' mb { M with tg := upd M.tg t g' } tb (collectT t c).1 ∧ Blk w' rb (encR (collectT t c).2) 41 ∧ Ext own own' (SR t) w w' := by
  have ht : t < 7 := by omega
  have k := h.tgt t ht
  have hm3 : mo c.1.x t < 3 := by have := hX.tm t ht; unfold mo; omega
  have hmz : ((mo c.1.x t : Nat) : Int) = (c.1.x.tp t).m := by have := hX.tm t ht; unfold mo; omega
  obtain ⟨f1, f2, f3⟩ := hX.fly t ht hf
  have hcn := hX.cnt _ hm3
  have ho := h.otx (mo c.1.x t) hm3 (c.1.x.tp t).sq f1 (by omega)
  have hne : ∀ b, own b ≠ 30 → b ≠ mb := fun b hb e => hb (by rw [e]; exact h.omb)
  have howm := h.owm t ht
  have hz1 : w1.heap.size = w.heap.size := by rw [hP.size, put_size]
  obtain ⟨g', s1, s2, s3, s4, s5, s6, s7, s8, s9, s10, s11, s12, s13⟩ := hS.out
  simp only [upd_same] at s2 s3 s4 s5 s6 s12 s13
  have hsb := hS.block
  simp only [upd_same] at hsb
  rw [MA.two] at s1
  have e : collectT t c = ({ sent { ticked c.1 t with x := retried c.1.x t } t with x := (retried c.1.x t).setR t (sat (c.1.x.sr t)) }, { c.2 with rs := upd c.2.rs t true }) := by
    unfold collectT
    rw [if_neg (by rw [hf.1]; exact Bool.noConfusion), if_neg (fun hh => by rw [he] at hh; cases hh.2), if_neg (by rw [hf.2]; exact Bool.noConfusion), if_pos hag]
  obtain ⟨o1, o2, o3, o4, o5⟩ := collectT_loc (c := c) (t := t) hrs hrp
  have hagL : againL (c.1.x.tp t) (slotOf c.1.x t) (c.1.x.mp (mo c.1.x t)).iso (pC t (c.1.p t)) = true := hag
  have hcl : colL t (c.1.x.tp t) (c.1.p t) (slotOf c.1.x t) (c.1.x.mp (mo c.1.x t)).iso = ⟨c.1.x.tp t, if t < 6 then sendP (tickP (c.1.p t)) (reqL (c.1.x.tp t) (slotOf c.1.x t)) else c.1.p t, { slotOf c.1.x t with ret := { (slotOf c.1.x t).ret with re := (slotOf c.1.x t).ret.re + 1 } }, true, false⟩ := by
    unfold colL
    rw [if_neg (by rw [hf.1]; exact Bool.noConfusion), if_neg (fun hh => by rw [he] at hh; cases hh.2), if_neg (by rw [hf.2]; exact Bool.noConfusion), if_pos hagL]
  rw [hcl] at o1 o2 o3
  simp only [if_pos ht6] at o1 o2 o3
  obtain ⟨b1, b2, b3, b4, b5, b6⟩ := collectT_else t c
  have hlr : lreqOf (reM (txOf c.1.x (mo c.1.x t) (c.1.x.tp t).sq)) = reqL (c.1.x.tp t) (slotOf c.1.x t) := by
    unfold lreqOf reM txOf reqL
    simp only [hmz]
    rfl
  have hpt : sendP (tkL t (c.1.p t)) (lreqOf (reM (txOf c.1.x (mo c.1.x t) (c.1.x.tp t).sq))) = (collectT t c).1.p t := by
    rw [hlr, o2]; unfold tkL; rw [if_pos ht6]
  rw [hpt] at s6 s7 s8 s9 s10 s11
  have hkb : ∀ b, b < w.heap.size → own b ≠ 30 → own b ≠ 49 → b ≠ tb (mo c.1.x t) (c.1.x.tp t).sq → own b ≠ 60 + t → own b ≠ 80 + t → w'.heap[b]? = w.heap[b]? := fun b hb h1 h2 h3 h4 h5 =>
    ((hsb b (by omega) (hne b h1) (fun e => h4 (by rw [e]; exact howm)) (fun e => h5 (h.oac t ht b e))).trans (hP.block b (hne b h1) h3 (fun e => h2 (by rw [e]; exact hrb)))).trans (put_heap_ne _ _ _ _ _ (hne b h1))
  have hext : Ext own (mark own w.heap.size (80 + t)) (SR t) w w' := ⟨hS.os.trans hP.os, hS.tape.trans hP.tape, hS.output.trans hP.output, by have := hS.size; omega, fun b hb => mark_lt hb, fun b hb hs => by
    unfold SR at hs
    exact hkb b hb (by omega) (by omega) (fun e => by rw [e] at hs; omega) (by omega) (by omega)⟩
  have hlt := (h.tx _ hm3 _ f1 (by omega)).lt
  have hkeep1 : ∀ b, b < w.heap.size → own b = 34 ∨ own b = 49 → w'.heap[b]? = w1.heap[b]? := fun b hb ho' =>
    hsb b (by omega) (hne b (by omega)) (fun e => by rw [e] at ho'; omega) (fun e => by have := h.oac t ht b e; omega)
  refine ⟨mark own w.heap.size (80 + t), g', h.col hX ht hext (fun b hb h34 hn => hkb b hb (by omega) (by omega) (fun e => hn ⟨hf, e⟩) (by omega) (by omega)) s1 (fun _ => ?_) ?_ ?_ ?_ ?_ ?_, ?_, hext⟩
  · have h9 : txOf (collectT t c).1.x (mo c.1.x t) (c.1.x.tp t).sq = reM (txOf c.1.x (mo c.1.x t) (c.1.x.tp t).sq) := by
      unfold reM txOf
      have h8 : slq (collectT t c).1.x (mo c.1.x t) (c.1.x.tp t).sq = slotOf (collectT t c).1.x t := by
        unfold slotOf slq mo; rw [(b4 t).1, (b4 t).2.1]
      rw [h8, o3, (b3 _).2.1]
      rfl
    rw [h9]
    exact (hkeep1 _ hlt (.inl ho)).trans hP.tx
  · refine ⟨?_, ?_, ?_, ?_, ?_, ?_, ?_, ?_, ?_⟩
    · rw [if_pos ht6, s2]; exact s6
    · rw [if_pos ht6, if_pos ht6]; exact s7
    · rw [if_pos ht6, if_pos ht6]; exact s8
    · rw [o1]; exact fun h0 => by rw [hf.1] at h0; cases h0
    · intro _
      have h9 : mo (collectT t c).1.x t = mo c.1.x t := by unfold mo; rw [(b4 t).1]
      rw [h9, (b4 t).2.1, s3]
      exact k.live hf
    · rw [o1]; exact fun _ h0 => by rw [hf.2] at h0; cases h0
    · intro _
      rw [if_pos ht6, if_pos ht6, if_pos ht6]
      have hwt : ((collectT t c).1.p t).wt = 0 := by rw [o2]; rfl
      rw [hwt]
      exact ⟨by rw [s9]; omega, s10, s11⟩
    · rw [o1, s4]; exact k.turn
    · rw [o1, s5]; exact k.iso
  · rw [s2, mark_lt k.words.lt]; exact howm
  · intro b hb
    have h9 := s12 b hb
    rw [mark_lt (k.plans.lt b h9)]; exact h.opl t ht b h9
  · intro b hb
    rcases s13 b hb with h9 | h9
    · rw [mark_lt (k.acted.lt b h9)]; exact h.oac t ht b h9
    · exact mark_ge (by omega)
  · rw [o1]; exact fun _ h0 => by rw [hf.2] at h0; cases h0
  · rw [e]
    exact (hkeep1 _ (by have := hP.rep.lt; omega) (.inr hrb)).trans hP.rep
end Go.Proofs.Qxb6500750aDoor
