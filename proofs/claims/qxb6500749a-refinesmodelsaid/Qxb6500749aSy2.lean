import Derived.Test.Qxb6500749aSyn
namespace Go.Proofs.Qxb6500749a
open Go.RowKit
/-! ### The fault-free pair, cycle by cycle, beside the interpreter, step by step -/
def nfl (b : BU) : Prop := b.c = 0 ∨ b.c = 1 ∨ b.c = 3
theorem nfl_z : nfl zBU := .inl rfl
theorem nfl_bq (w : Bool) (a d : Int) : nfl (bq w a d) := by cases w; exact .inr (.inl rfl); exact .inr (.inr rfl)
theorem vld_bq (w : Bool) (a d : Int) : vld (bq w a d) = true := by
  cases w
  · show (andB 1 1 != 0) = true
    decide
  · show (andB 3 1 != 0) = true
    decide
theorem w_bq (w : Bool) (a d : Int) : (andB (bq w a d).c 2 != 0) = w := by
  cases w
  · show (andB 1 2 != 0) = false
    decide
  · show (andB 3 2 != 0) = true
    decide
def fnl (M : IM) : Prop := M.hal = false ∧ M.tra = false
/-- What a stopped copy shows. -/
def Shw (M : IM) (md : Int) (S : BU) : Prop := (M.hal = true ∧ M.tra = false ∧ md = 2 ∧ S = ⟨4, 0, 0⟩) ∨ (M.hal = false ∧ M.tra = true ∧ md = 3 ∧ S = ⟨8, 0, 0⟩)
def Idl (M : IM) (U : BusD) : Prop := U.busy = false ∧ U.m = M.m ∧ U.log = M.log
def StA (M : IM) (t k : Nat) (c : Nat → Int) (lt du ls : BU) (U : BusD) : Prop := c 17 = 0 ∧ SynR c M ∧ fnl M ∧ lt = zBU ∧ du = zBU ∧ nfl ls ∧ Idl M U ∧ t ≤ k + 66 * M.log.length
def StB1 (prog : List Int) (M : IM) (t k : Nat) (c : Nat → Int) (lt du ls : BU) (U : BusD) : Prop := ∃ w a d, Rq prog c M (itF prog M) w a d ∧ fnl M ∧ lt = bq w a d ∧ du = zBU ∧ nfl ls ∧ Idl M U ∧ t ≤ k + 66 * M.log.length + 1 ∧ k < t
def StB2 (prog : List Int) (M : IM) (t k : Nat) (c : Nat → Int) (lt du ls : BU) (U : BusD) : Prop := ∃ w a d, Rq prog c M (itF prog M) w a d ∧ fnl M ∧ lt = zBU ∧ du = bq w a d ∧ nfl ls ∧ Idl M U ∧ t ≤ k + 66 * M.log.length + 2 ∧ k < t
def StB3 (prog : List Int) (M : IM) (t k : Nat) (c : Nat → Int) (lt du ls : BU) (U : BusD) : Prop := ∃ w a d, Rq prog c M (itF prog M) w a d ∧ fnl M ∧ lt = zBU ∧ du = zBU ∧ nfl ls ∧ U.busy = true ∧ U.m = (itF prog M).m ∧ U.log = (itF prog M).log ∧ t + U.left.toNat ≤ k + 66 * M.log.length + 67 ∧ k < t
def StZ (M : IM) (t k : Nat) (c c1 c2 : Nat → Int) (lt du ls : BU) (U : BusD) : Prop := ∃ S, Shw M (c 17) S ∧ SynR c M ∧ Idl M U ∧ lt = S ∧
  ((du = zBU ∧ nfl ls ∧ t ≤ k + 66 * M.log.length) ∨ (du = S ∧ nfl ls ∧ SynR c1 M ∧ t ≤ k + 66 * M.log.length + 1) ∨ (du = S ∧ ls = S ∧ SynR c1 M ∧ SynR c2 M))
structure Syn (prog : List Int) (A0 : IM) (t k : Nat) (c c1 c2 : Nat → Int) (lt du ls : BU) (U : BusD) : Prop where
  bef : ∀ j, j < k → fnl (itN prog A0 j)
  le : k ≤ t
  st : StA (itN prog A0 k) t k c lt du ls U ∨ StB1 prog (itN prog A0 k) t k c lt du ls U ∨ StB2 prog (itN prog A0 k) t k c lt du ls U ∨ StB3 prog (itN prog A0 k) t k c lt du ls U ∨ StZ (itN prog A0 k) t k c c1 c2 lt du ls U
theorem core_sit' (prog : List Int) (c : Nat → Int) (i : INP) (hw : c 17 % 4 = 1) (hv : i.v = false) : coreF prog 0 i (nfs c) = (nfs c, zBU) :=
  core_sit prog (nfs c) i (by unfold waitM; rw [nfs_get]; exact hw) hv
theorem core_shw (prog : List Int) (c : Nat → Int) (i : INP) {M : IM} {S : BU} (h : Shw M (c 17) S) : coreF prog 0 i (nfs c) = (nfs c, S) ∧ vld S = false := by
  have hg : (nfs c).get (0 + 17) = c 17 := nfs_get c 17
  rcases h with ⟨_, _, h3, h4⟩ | ⟨_, _, h3, h4⟩
  · subst h4
    refine ⟨?_, vld_four⟩
    unfold coreF
    rw [hg, h3, if_pos (by decide)]
  · subst h4
    refine ⟨?_, vld_eight⟩
    unfold coreF
    rw [hg, h3, if_neg (by decide), if_pos (by decide)]
/-- The next state of the bus port. -/
def nxU (du : BU) (U1 : BusD) : BusD := if vld du = true then issF U1 (andB du.c 2 != 0) du.a du.d else U1
theorem nxU_no {du : BU} {U1 : BusD} (h : vld du = false) : nxU du U1 = U1 := by unfold nxU; rw [if_neg (by rw [h]; decide)]
theorem Syn.step {prog : List Int} {A0 : IM} {t k N : Nat} {c c1 c2 : Nat → Int} {lt du ls : BU} {U U1 : BusD} {i : INP} (h : Syn prog A0 t k c c1 c2 lt du ls U) (hU : BOk N U) (hT : tickF U = (U1, i)) :
    ∃ k' c', (coreF prog 0 i (nfs c)).1 = nfs c' ∧ Syn prog A0 (t + 1) k' c' c c1 (coreF prog 0 i (nfs c)).2 lt du (nxU du U1) := by
  have hN : itN prog A0 (k + 1) = itF prog (itN prog A0 k) := rfl
  have hle := h.le
  have bef1 : fnl (itN prog A0 k) → ∀ j, j < k + 1 → fnl (itN prog A0 j) := fun hf j hj => by
    by_cases q : j = k
    · rw [q]; exact hf
    · exact h.bef j (by omega)
  have idle : U.busy = false → U1 = U ∧ i.v = false := fun hb => by
    rw [tick_idle' U hb] at hT
    injection hT with e1 e2
    exact ⟨e1.symm, by rw [← e2]⟩
  rcases h.st with s | s | s | s | s
  · obtain ⟨h0, hs, hf, e1, e2, hl, hi, hle2⟩ := s
    obtain ⟨q1, q2⟩ := idle hi.1
    have hnx : nxU du U1 = U := by rw [e2, nxU_no vld_zero, q1]
    rw [hnx]
    obtain ⟨c', hc', hE⟩ := exec_it prog c (itN prog A0 k) i hs h0 hf.1 hf.2
    rcases hE with ⟨r, m0, m1, m2, m3, m4, m5⟩ | ⟨r, m0, m1, m2, m3, m4, m5⟩ | ⟨r, m0, m1, m2, m3, m4, m5⟩ | ⟨w, a, d, r, hq⟩
    · refine ⟨k + 1, c', hc', bef1 hf, by omega, .inl ⟨m0, m1, ⟨m2, m3⟩, r, e1, by rw [e2]; exact nfl_z, ⟨hi.1, by rw [hN, m5]; exact hi.2.1, by rw [hN, m4]; exact hi.2.2⟩, by rw [hN, m4]; omega⟩⟩
    · refine ⟨k + 1, c', hc', bef1 hf, by omega, .inr (.inr (.inr (.inr ⟨⟨4, 0, 0⟩, .inl ⟨m2, m3, m0, rfl⟩, m1, ⟨hi.1, by rw [hN, m5]; exact hi.2.1, by rw [hN, m4]; exact hi.2.2⟩, r, .inl ⟨e1, by rw [e2]; exact nfl_z, by rw [hN, m4]; omega⟩⟩)))⟩
    · refine ⟨k + 1, c', hc', bef1 hf, by omega, .inr (.inr (.inr (.inr ⟨⟨8, 0, 0⟩, .inr ⟨m2, m3, m0, rfl⟩, m1, ⟨hi.1, by rw [hN, m5]; exact hi.2.1, by rw [hN, m4]; exact hi.2.2⟩, r, .inl ⟨e1, by rw [e2]; exact nfl_z, by rw [hN, m4]; omega⟩⟩)))⟩
    · exact ⟨k, c', hc', h.bef, by omega, .inr (.inl ⟨w, a, d, hq, hf, r, e1, by rw [e2]; exact nfl_z, hi, by omega, by omega⟩)⟩
  · obtain ⟨w, a, d, hq, hf, e1, e2, hl, hi, hle2, hlt⟩ := s
    obtain ⟨q1, q2⟩ := idle hi.1
    have hnx : nxU du U1 = U := by rw [e2, nxU_no vld_zero, q1]
    rw [hnx, core_sit' prog c i hq.wait q2]
    exact ⟨k, c, rfl, h.bef, by omega, .inr (.inr (.inl ⟨w, a, d, hq, hf, rfl, e1, by rw [e2]; exact nfl_z, hi, by omega, by omega⟩))⟩
  · obtain ⟨w, a, d, hq, hf, e1, e2, hl, hi, hle2, hlt⟩ := s
    obtain ⟨q1, q2⟩ := idle hi.1
    rw [core_sit' prog c i hq.wait q2]
    have h64 : (1 + U.lat.headD 0).toNat ≤ 64 := by
      cases hl2 : U.lat with
      | nil => simp
      | cons x xs => have := hU.lat x (by rw [hl2]; simp); simp; omega
    have hnx : nxU du U1 = issF U w a d := by
      unfold nxU
      rw [e2, if_pos (vld_bq w a d), w_bq, q1]
      rfl
    rw [hnx]
    refine ⟨k, c, rfl, h.bef, by omega, .inr (.inr (.inr (.inl ⟨w, a, d, hq, hf, rfl, e1, by rw [e2]; exact nfl_bq _ _ _, ?_, ?_, ?_, ?_, by omega⟩)))⟩
    · unfold issF; rw [if_neg (by rw [hi.1]; decide)]
    · rw [hq.m]
      unfold issF; rw [if_neg (by rw [hi.1]; decide)]
      show (if mapF a = true ∧ w = true then (fun x => if x = a then d else U.m x) else U.m) = _
      rw [hi.2.1]; rfl
    · rw [hq.log]
      unfold issF; rw [if_neg (by rw [hi.1]; decide)]
      show U.log ++ [⟨w, a, d, !mapF a, if mapF a = true ∧ w = false then U.m a else 0⟩] = _
      rw [hi.2.1, hi.2.2]; rfl
    · unfold issF; rw [if_neg (by rw [hi.1]; decide)]
      show t + 1 + (1 + U.lat.headD 0).toNat ≤ _
      omega
  · obtain ⟨w, a, d, hq, hf, e1, e2, hl, hb, hm, hg, hle2, hlt⟩ := s
    have hbb := hU.busy hb
    rw [nxU_no (by rw [e2]; exact vld_zero)]
    by_cases hleft : U.left - 1 > 0
    · have hT2 : tickF U = ({ U with left := U.left - 1 }, ⟨false, false, 0⟩) := by unfold tickF; rw [if_pos hb, if_pos hleft]
      rw [hT2] at hT
      injection hT with t1 t2
      rw [core_sit' prog c i hq.wait (by rw [← t2]), ← t1]
      exact ⟨k, c, rfl, h.bef, by omega, .inr (.inr (.inr (.inl ⟨w, a, d, hq, hf, rfl, e1, by rw [e2]; exact nfl_z, hb, hm, hg, by show t + 1 + (U.left - 1).toNat ≤ _; omega, by omega⟩)))⟩
    · have hlg : U.log = (itN prog A0 k).log ++ [accT (itN prog A0 k).m w a d] := by rw [hg, hq.log]
      have hT2 : tickF U = ({ U with left := U.left - 1, busy := false }, ⟨true, !mapF a, (accT (itN prog A0 k).m w a d).r⟩) := by
        unfold tickF; rw [if_pos hb, if_neg hleft, hlg]
        simp [accT]
      rw [hT2] at hT
      injection hT with t1 t2
      obtain ⟨c', f1, f2, f3⟩ := hq.fin
      rw [← t2, f1, ← t1]
      have hL : (itN prog A0 (k + 1)).log.length = (itN prog A0 k).log.length + 1 := by rw [hN, hq.log]; simp
      have htr := hq.tra
      have hha := hq.hal
      cases hma : mapF a
      · rw [hma] at f2 htr
        refine ⟨k + 1, c', rfl, bef1 hf, by omega, .inr (.inr (.inr (.inr ⟨⟨8, 0, 0⟩, .inr ⟨hha, htr, f2, rfl⟩, f3, ⟨rfl, hm, hg⟩, rfl, .inl ⟨e1, by rw [e2]; exact nfl_z, by rw [hL]; omega⟩⟩)))⟩
      · rw [hma] at f2 htr
        refine ⟨k + 1, c', rfl, bef1 hf, by omega, .inl ⟨f2, f3, ⟨hha, htr⟩, rfl, e1, by rw [e2]; exact nfl_z, ⟨rfl, hm, hg⟩, by rw [hL]; omega⟩⟩
  · obtain ⟨S, hS, hs, hi, e1, hd⟩ := s
    obtain ⟨q1, q2⟩ := idle hi.1
    obtain ⟨k1, k2⟩ := core_shw prog c i hS
    have hdu : vld du = false := by
      rcases hd with ⟨e, _⟩ | ⟨e, _⟩ | ⟨e, _⟩
      · rw [e]; exact vld_zero
      · rw [e]; exact k2
      · rw [e]; exact k2
    rw [k1, nxU_no hdu, q1]
    refine ⟨k, c, rfl, h.bef, by omega, .inr (.inr (.inr (.inr ⟨S, hS, hs, hi, rfl, ?_⟩)))⟩
    rcases hd with ⟨e, _, hle2⟩ | ⟨e, _, hc1, _⟩ | ⟨e, _, hc1, _⟩
    · exact .inr (.inl ⟨e1, by rw [e]; exact nfl_z, hs, by omega⟩)
    · exact .inr (.inr ⟨e1, e, hs, hc1⟩)
    · exact .inr (.inr ⟨e1, e, hs, hc1⟩)
end Go.Proofs.Qxb6500749a
