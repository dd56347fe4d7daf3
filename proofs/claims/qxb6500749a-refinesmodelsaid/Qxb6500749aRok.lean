import Derived.Test.Qxb6500749aRgp
namespace Go.Proofs.Qxb6500749a
open Go.RowKit
/-! ### The rig's invariant, and its cycle -/
structure ROk (R : RG) : Prop where
  plen : R.prog.length ≤ 64
  pw : ∀ x ∈ R.prog, W32 x
  uP : BOk R.reps.length R.uP
  uD : BOk R.reps.length R.uD
  fc : R.fc.Ok
  fo : R.fo.Ok
  desc : W32 R.desc
  BP : R.run = true → R.BP.Ok ∧ R.BP.now = (R.reps.length : Nat)
  BM : R.run = true → R.BM.Ok ∧ R.BM.now = (R.reps.length : Nat)
  DM : R.run = true → R.DM.Ok
  reps0 : R.run = false → R.reps = []
def fsC (R : RG) : List FD := if R.hc && R.kc then [R.fc] else []
def fsO (R : RG) : List FD := if R.ho && R.ko then [R.fo] else []
def fsR (R : RG) : List FD := fsC R ++ fsO R
/-- The scene ends. -/
def strR (R : RG) : RG := { R with run := true, BP := bd0 (fsR R), last := rep0, DM := if R.hd = true then strD dd0 R.desc else dd0, BM := if R.hd = true then idxF (bd0 (fsR R)) 0 else bd0 (fsR R) }
def cy1 (R : RG) : RG := { R with uP := (pairF R.prog R.BP R.uP).U, BP := (pairF R.prog R.BP R.uP).B, last := (pairF R.prog R.BP R.uP).r, reps := R.reps ++ [(pairF R.prog R.BP R.uP).r] }
def cy2 (R : RG) : RG := { R with uD := (dmaF R.DM R.BM R.uD).U, BM := (dmaF R.DM R.BM R.uD).B, DM := (dmaF R.DM R.BM R.uD).D }
def cycR (R : RG) : RG := cy2 (cy1 (if R.run = true then R else strR R))
theorem st_lit (x : Int) (h : 0 ≤ x ∧ x ≤ 5) : 0 ≤ x ∧ x ≤ 5 := h
theorem bd0_ok (fs : List FD) : (bd0 fs).Ok := fun _ => w32_zero
theorem idxF_ok (B : BD) (hB : B.Ok) (x : Int) (hx : W32 x) : (idxF B x).Ok := (hB.set _ _ hx).set _ _ hx
theorem fsR_ok {R : RG} (h : ROk R) : (∀ f ∈ fsR R, f.Ok) ∧ (fsR R).length ≤ 2 := by
  unfold fsR fsC fsO
  constructor
  · intro f hf
    rcases List.mem_append.1 hf with q | q
    · split at q
      · simp at q; subst q; exact h.fc
      · simp at q
    · split at q
      · simp at q; subst q; exact h.fo
      · simp at q
  · split <;> split <;> simp
theorem ROk.str {R : RG} (h : ROk R) (hr : R.run = false) : ROk (strR R) := by
  have h0 := h.reps0 hr
  refine ⟨h.plen, h.pw, h.uP, h.uD, h.fc, h.fo, h.desc, fun _ => ⟨bd0_ok _, ?_⟩, fun _ => ?_, fun _ => ?_, fun q => Bool.noConfusion (show true = false from q)⟩
  · show (0 : Int) = (R.reps.length : Nat)
    rw [h0]; rfl
  · show (if R.hd = true then idxF (bd0 (fsR R)) 0 else bd0 (fsR R)).Ok ∧ (if R.hd = true then idxF (bd0 (fsR R)) 0 else bd0 (fsR R)).now = (R.reps.length : Nat)
    rw [h0]
    split
    · exact ⟨idxF_ok _ (bd0_ok _) 0 w32_zero, rfl⟩
    · exact ⟨bd0_ok _, rfl⟩
  · show (if R.hd = true then strD dd0 R.desc else dd0).Ok
    split
    · exact ⟨st_lit 1 (by decide), .inl rfl, Nat.zero_le 4, fun _ => show 0 < 4 by decide, h.desc, w32_zero⟩
    · exact ⟨by decide, .inl rfl, by decide, fun _ => by decide, w32_zero, w32_zero⟩
theorem issF_or (N : Nat) (U : BusD) (h : BOk N U) (c : Prop) [Decidable c] (rw : Bool) (a d : Int) (hd : W32 d) : BOk (N + 1) (if c then issF U rw a d else U) := by
  split
  · exact h.iss rw a d hd
  · exact h.mono (Nat.le_succ _)
theorem ROk.cy1 {R : RG} (h : ROk R) (hr : R.run = true) : ROk { (cy1 R) with BM := nextB R.BM } := by
  have hB := h.BP hr
  have hd := tickF_ok R.uP h.uP.lr
  have h1 := coreF_ok R.prog h.pw 0 (tickF R.uP).2 hd R.BP hB.1
  have h1k := coreF_keep R.prog 0 (tickF R.uP).2 R.BP
  have h2 := shaF_ok R.prog h.pw (coreF R.prog 0 (tickF R.uP).2 R.BP).1 h1.1
  have h2k := shaF_keep R.prog (coreF R.prog 0 (tickF R.uP).2 R.BP).1
  have hlen : (R.reps ++ [(pairF R.prog R.BP R.uP).r]).length = R.reps.length + 1 := by simp
  refine ⟨h.plen, h.pw, ?_, ?_, h.fc, h.fo, h.desc, fun _ => ⟨?_, ?_⟩, fun _ => ⟨(h.BM hr).1, ?_⟩, fun _ => h.DM hr, fun q => absurd (hr.symm.trans (show R.run = false from q)) (by decide)⟩
  · show BOk (R.reps ++ [(pairF R.prog R.BP R.uP).r]).length (pairF R.prog R.BP R.uP).U
    rw [hlen]
    exact issF_or _ _ h.uP.tick _ _ _ _ (h2.1.get 45)
  · show BOk (R.reps ++ [(pairF R.prog R.BP R.uP).r]).length R.uD
    rw [hlen]
    exact h.uD.mono (Nat.le_succ _)
  · exact edgF_ok _ h2.1 _ _ h1.2 _ hd
  · show (nextB (edgF (shaF R.prog (coreF R.prog 0 (tickF R.uP).2 R.BP).1).1 _ _ _)).now = ((R.reps ++ [(pairF R.prog R.BP R.uP).r]).length : Nat)
    rw [hlen]
    show (shaF R.prog (coreF R.prog 0 (tickF R.uP).2 R.BP).1).1.now + 1 = _
    rw [h2k.2, h1k.2, hB.2]
    omega
  · show R.BM.now + 1 = ((R.reps ++ [(pairF R.prog R.BP R.uP).r]).length : Nat)
    rw [hlen, (h.BM hr).2]
    omega
theorem gosF_keep (D : DD) (B : BD) (U : BusD) : (gosF D B U).B = B := by
  unfold gosF
  repeat' split
  all_goals rfl
theorem takB_keep (D : DD) (B : BD) (i : INP) : (takB D B i).now = B.now ∧ (takB D B i).fs = B.fs := by
  unfold takB absB
  repeat' split
  all_goals exact ⟨rfl, rfl⟩
theorem nexF_st (D : DD) (B : BD) (hD : D.Ok) : (nexF D B).1.Ok := by
  unfold nexF
  repeat' split
  all_goals first | exact hD | exact ⟨st_lit 3 (by decide), hD.ph, hD.fet, hD.fet0, hD.desc, hD.buf⟩ | exact ⟨st_lit 5 (by decide), hD.ph, hD.fet, hD.fet0, hD.desc, hD.buf⟩ | exact ⟨st_lit 2 (by decide), hD.ph, hD.fet, hD.fet0, hD.desc, hD.buf⟩
theorem dmaF_ok {N : Nat} (D : DD) (B : BD) (U : BusD) (hD : D.Ok) (hB : B.Ok) (hU : BOk N U) : (dmaF D B U).D.Ok ∧ (dmaF D B U).B.Ok ∧ (dmaF D B U).B.now = B.now + 1 ∧ BOk (N + 1) (dmaF D B U).U := by
  have hd := tickF_ok U hU.lr
  have hD1 : (if takes D (tickF U).2 = true then takD D (tickF U).2 else D).Ok := by
    split
    · unfold takD
      split
      · exact ⟨st_lit 4 (by decide), hD.ph, hD.fet, hD.fet0, hD.desc, hD.buf⟩
      · exact absD_ok D hD _ hd
    · exact hD
  have hB1 : (if takes D (tickF U).2 = true then takB D B (tickF U).2 else B).Ok := by
    split
    · exact takB_ok D B hB _ hd
    · exact hB
  have hB2 : (if takes D (tickF U).2 = true then takB D B (tickF U).2 else B).now = B.now := by
    split
    · exact (takB_keep D B _).1
    · rfl
  have hU1 := hU.tick
  have e : dmaF D B U = ⟨(gosF (if takes D (tickF U).2 = true then takD D (tickF U).2 else D) (if takes D (tickF U).2 = true then takB D B (tickF U).2 else B) (tickF U).1).D, nextB (gosF (if takes D (tickF U).2 = true then takD D (tickF U).2 else D) (if takes D (tickF U).2 = true then takB D B (tickF U).2 else B) (tickF U).1).B, (gosF (if takes D (tickF U).2 = true then takD D (tickF U).2 else D) (if takes D (tickF U).2 = true then takB D B (tickF U).2 else B) (tickF U).1).U⟩ := rfl
  rw [e]
  generalize (if takes D (tickF U).2 = true then takD D (tickF U).2 else D) = D1 at *
  generalize (if takes D (tickF U).2 = true then takB D B (tickF U).2 else B) = B1 at *
  generalize (tickF U).1 = U1 at *
  simp only []
  rw [gosF_keep]
  refine ⟨?_, hB1, by show B1.now + 1 = _; rw [hB2], ?_⟩
  · unfold gosF
    have := nexF_st D1 B1 hD1
    split
    · split
      · exact ⟨this.st, this.ph, this.fet, this.fet0, this.desc, this.buf⟩
      · exact this
    · exact hD1
  · unfold gosF
    split
    · split
      · exact hU1.iss _ _ _ (nexF_ok D1 B1 hD1).2
      · exact hU1.mono (Nat.le_succ _)
    · exact hU1.mono (Nat.le_succ _)
theorem ROk.cyc {R : RG} (h : ROk R) : ROk (cycR R) := by
  have h1 : ROk (if R.run = true then R else strR R) ∧ (if R.run = true then R else strR R).run = true := by
    split
    · rename_i q; exact ⟨h, q⟩
    · rename_i q; exact ⟨h.str (by simpa using q), rfl⟩
  unfold cycR
  generalize (if R.run = true then R else strR R) = Q at *
  have h2 := h1.1.cy1 h1.2
  have h3 := dmaF_ok Q.DM Q.BM Q.uD (h1.1.DM h1.2) (h1.1.BM h1.2).1 h1.1.uD
  have hlen : (Q.reps ++ [(pairF Q.prog Q.BP Q.uP).r]).length = Q.reps.length + 1 := by simp
  refine ⟨h2.plen, h2.pw, h2.uP, ?_, h2.fc, h2.fo, h2.desc, h2.BP, fun _ => ⟨h3.2.1, ?_⟩, fun _ => h3.1, h2.reps0⟩
  · show BOk (Q.reps ++ [(pairF Q.prog Q.BP Q.uP).r]).length (dmaF Q.DM Q.BM Q.uD).U
    rw [hlen]; exact h3.2.2.2
  · show (dmaF Q.DM Q.BM Q.uD).B.now = ((Q.reps ++ [(pairF Q.prog Q.BP Q.uP).r]).length : Nat)
    rw [hlen, h3.2.2.1, (h1.1.BM h1.2).2]; omega
end Go.Proofs.Qxb6500749a
