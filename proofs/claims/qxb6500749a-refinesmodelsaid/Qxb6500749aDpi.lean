import Derived.Test.Qxb6500749aDpl
namespace Go.Proofs.Qxb6500749a
open Go.RowKit
/-! ### The bank beside the plain cells -/
structure BN (z : Nat) (B : BD) (c : Nat → Int) : Prop where
  ok : B.Ok
  w : ∀ s, W32 (c s)
  snd : ∀ s, 49 ≤ s → s < 55 → s ≠ z → Snd B.fs s ∧ B.c s = c s
  nr : 49 ≤ z → z < 53 → ∃ b, (∀ f ∈ B.fs, f.site = (z : Nat) → f.bit = b) ∧ Nr b (B.c z) (c z)
section
variable {z : Nat} {B : BD} {c : Nat → Int}
theorem BN.get (h : BN z B c) (s : Nat) (h1 : 49 ≤ s) (h2 : s < 55) (h3 : s ≠ z) : B.get s = c s := by
  have := h.snd s h1 h2 h3
  rw [get_snd this.1]; exact this.2
theorem BN.set (h : BN z B c) (s : Nat) {x y : Int} (hx : W32 x) (hy : W32 y) (h1 : 49 ≤ s) (h2 : s < 55) (e : s ≠ z ∨ s < 53 → x = y) : BN z (B.set s x) (upd c s y) := by
  refine ⟨h.ok.set s x hx, W32.upd h.w hy s, fun j j1 j2 j3 => ?_, fun z1 z2 => ?_⟩
  · by_cases q : j = s
    · have hh := h.snd j j1 j2 j3
      refine ⟨hh.1, ?_⟩
      subst q
      rw [set_c_same hh.1, upd_same]
      exact e (.inl j3)
    · have hh := h.snd j j1 j2 j3
      refine ⟨hh.1, ?_⟩
      rw [set_c_ne _ _ _ _ q, upd_ne _ _ _ _ q]
      exact hh.2
  · obtain ⟨b, hf, hn⟩ := h.nr z1 z2
    refine ⟨b, hf, ?_⟩
    by_cases q : z = s
    · subst q
      have hxy := e (.inr z2)
      subst hxy
      rw [upd_same]
      show Nr b (upd B.c z (keepF B.now z (B.c z) B.fs x) z) x
      rw [upd_same]
      exact (nr_keep hf B.now (h.ok z) x hx (Nr.refl b x)).1
    · rw [set_c_ne _ _ _ _ q, upd_ne _ _ _ _ q]
      exact hn
theorem BN.next (h : BN z B c) : BN z (nextB B) c := ⟨h.ok, h.w, h.snd, h.nr⟩
theorem BN.tak (h : BN z B c) (D : DD) (i : INP) (hi : W32 i.d) (hf : D.ph = 0 → D.fet < 4) : BN z (takB D B i) (takB D (nfs c) i).c := by
  rw [takB_nfs]
  unfold takB absB
  cases i.e
  · rw [if_neg (show ¬ false = true by decide), if_neg (show ¬ false = true by decide)]
    by_cases p0 : D.ph = 0
    · rw [if_pos p0, if_pos p0]
      have := hf p0
      exact h.set _ hi hi (by omega) (by omega) (fun _ => rfl)
    rw [if_neg p0, if_neg p0]
    by_cases p1 : D.ph = 1
    · rw [if_pos p1, if_pos p1]; exact h
    rw [if_neg p1, if_neg p1]
    have h1 : BN z (B.set 53 ((B.get 53 + 1) % 4294967296)) (upd c 53 ((c 53 + 1) % 4294967296)) :=
      h.set 53 (W32.emod _) (W32.emod _) (by decide) (by decide) fun q => by
        rw [h.get 53 (by decide) (by decide) (by rcases q with q | q; exact q; exact absurd q (by decide))]
    refine h1.set 54 (W32.emod _) (W32.emod _) (by decide) (by decide) fun q => ?_
    rw [h1.get 54 (by decide) (by decide) (by rcases q with q | q; exact q; exact absurd q (by decide)), upd_ne _ _ _ _ (by decide)]
  · rw [if_pos rfl, if_pos rfl]; exact h
/-- The master's next move over the bank is that over the plain cells, or a guard ends the run. -/
theorem nex_rel (h : BN z B c) (D : DD) (h53 : D.ph ≠ 0 → c 53 = c 54) (hs : D.ph ≠ 0 → 49 ≤ z → z < 53 → crcF (c 49) (c 50) (c 51) = c 52) :
    nexF D B = nexF D (nfs c) ∨ (49 ≤ z ∧ z < 55 ∧ ((nexF D B).1.st = 3 ∨ (nexF D B).1.st = 5) ∧ (nexF D B).2.ok = false) := by
  by_cases hp : D.ph = 0
  · left; unfold nexF; rw [if_pos hp, if_pos hp]
  have key : (∀ s, 49 ≤ s → s < 55 → B.get s = c s) → nexF D B = nexF D (nfs c) := fun q => by
    unfold nexF badF
    rw [nfs_get, nfs_get, nfs_get, nfs_get, nfs_get, nfs_get, q 49 (by decide) (by decide), q 50 (by decide) (by decide), q 51 (by decide) (by decide), q 52 (by decide) (by decide), q 53 (by decide) (by decide), q 54 (by decide) (by decide)]
  by_cases hz : 49 ≤ z ∧ z < 55
  case neg => exact .inl (key fun s h1 h2 => h.get s h1 h2 (by omega))
  by_cases hz3 : z < 53
  · obtain ⟨b, hf, hn⟩ := h.nr hz.1 hz3
    have hw := nr_wire hf B.now (B.c z) (h.ok z) hn
    have hwg : W32 (B.get z) := hw.2
    rcases Nr.eq_or hw.2 (h.w z) hw.1 with e | e
    · refine .inl (key fun s h1 h2 => ?_)
      by_cases q : s = z
      · subst q; exact e
      · exact h.get s h1 h2 q
    · right
      have hb : b < 32 := by
        rcases Nat.lt_or_ge b 32 with q | q
        · exact q
        · exact absurd (by rw [bt_hi hw.2 q, bt_hi (h.w z) q]) e
      have hsd := hs hp hz.1 hz3
      have hnr : Nr b (B.get z) (c z) := hw.1
      have hne : bt (B.get z) b ≠ bt (c z) b := e
      have hw2 : ∀ s, 49 ≤ s → s < 55 → W32 (B.get s) := fun s h1 h2 => by
        by_cases q : s = z
        · subst q; exact hwg
        · rw [h.get s h1 h2 q]; exact h.w s
      have hc : crcF (B.get 49) (B.get 50) (B.get 51) ≠ B.get 52 := by
        refine crc_one hb (h.w 49) (h.w 50) (h.w 51) (hw2 49 (by decide) (by decide)) (hw2 50 (by decide) (by decide)) (hw2 51 (by decide) (by decide)) hsd ?_
        obtain rfl | rfl | rfl | rfl : z = 49 ∨ z = 50 ∨ z = 51 ∨ z = 52 := by omega
        · exact .inl ⟨hnr, hne, h.get _ (by decide) (by decide) (by decide), h.get _ (by decide) (by decide) (by decide), h.get _ (by decide) (by decide) (by decide)⟩
        · exact .inr (.inl ⟨hnr, hne, h.get _ (by decide) (by decide) (by decide), h.get _ (by decide) (by decide) (by decide), h.get _ (by decide) (by decide) (by decide)⟩)
        · exact .inr (.inr (.inl ⟨hnr, hne, h.get _ (by decide) (by decide) (by decide), h.get _ (by decide) (by decide) (by decide), h.get _ (by decide) (by decide) (by decide)⟩))
        · exact .inr (.inr (.inr ⟨hne, h.get _ (by decide) (by decide) (by decide), h.get _ (by decide) (by decide) (by decide), h.get _ (by decide) (by decide) (by decide)⟩))
      have hbad : badF B = true := by
        unfold badF
        have : (crcF (B.get 49) (B.get 50) (B.get 51) != B.get 52) = true := by simpa using hc
        rw [this]; rfl
      have hE : nexF D B = ({ D with st := 3 }, noRQ) := by unfold nexF; rw [if_neg hp, if_pos hbad]
      rw [hE]
      exact ⟨hz.1, hz.2, .inl rfl, rfl⟩
  · have hb : badF B = badF (nfs c) := by
      unfold badF
      rw [nfs_get, nfs_get, nfs_get, nfs_get, h.get 49 (by decide) (by decide) (by omega), h.get 50 (by decide) (by decide) (by omega), h.get 51 (by decide) (by decide) (by omega), h.get 52 (by decide) (by decide) (by omega)]
    by_cases e : B.get 53 = B.get 54
    · have h9 := h53 hp
      refine .inl (key fun s h1 h2 => ?_)
      by_cases q : s = z
      · subst q
        obtain rfl | rfl : s = 53 ∨ s = 54 := by omega
        · rw [e, h.get 54 (by decide) (by decide) (by decide)]; exact h9.symm
        · rw [← e, h.get 53 (by decide) (by decide) (by decide)]; exact h9
      · exact h.get s h1 h2 q
    · by_cases hbd : badF B = true
      · left
        unfold nexF
        rw [if_neg hp, if_neg hp, if_pos hbd, if_pos (hb ▸ hbd)]
      · right
        have hE : nexF D B = ({ D with st := 5 }, noRQ) := by unfold nexF; rw [if_neg hp, if_neg hbd, if_pos (by simpa using e)]
        rw [hE]
        exact ⟨hz.1, hz.2, .inr rfl, rfl⟩
end
theorem lt16 {A : AS} (hp : A.D.ph = 1) (hq : (asQ A).ok = true) {i : Nat} (h53 : A.c 53 = (i : Nat)) : i < 16 := by
  have hq2 := hq
  unfold asQ nexF noRQ at hq2
  rw [if_neg (by omega)] at hq2
  by_cases b1 : badF (nfs A.c) = true
  · rw [if_pos b1] at hq2; exact absurd (show false = true from hq2) (by decide)
  rw [if_neg b1] at hq2
  by_cases b2 : ((nfs A.c).get 53 != (nfs A.c).get 54) = true
  · rw [if_pos b2] at hq2; exact absurd (show false = true from hq2) (by decide)
  rw [if_neg b2, if_neg (by omega)] at hq2
  by_cases b3 : (nfs A.c).get 53 < (nfs A.c).get 51
  · unfold badF at b1
    rw [nfs_get, nfs_get] at b3
    have b4 : ¬ (nfs A.c).get 51 > 16 := fun q => b1 (by rw [decide_eq_true q]; simp)
    rw [nfs_get] at b4
    omega
  · rw [if_neg b3] at hq2; exact absurd (show false = true from hq2) (by decide)
theorem AIv.lt {desc : Int} {m0 : Int → Int} {n : Nat} {A : AS} (h : AIv desc m0 n A) (hs : A.D.st = 1) (hq : (asQ A).ok = true) : n < 36 := by
  rcases h.go hs with ⟨_, _, hn, _⟩ | ⟨_, i, h53, _, hi, ⟨hp, hn⟩ | ⟨hp, hn, h2⟩⟩
  · omega
  · have := lt16 hp hq h53; omega
  · omega
/-! ### The master in its play beside the atomic master -/
def DI (z : Nat) (A0 : AS) (μ : Nat) (D : DD) (B : BD) (U : BusD) : Prop := ∃ n,
  (D = { (asN A0 n).D with wai := true } ∧ (asN A0 n).D.st = 1 ∧ (asQ (asN A0 n)).ok = true ∧ BN z B (asN A0 n).c ∧ U.busy = true ∧ U.m = (asN A0 (n + 1)).m ∧ U.log = (asN A0 (n + 1)).log ∧ n < 36 ∧ 64 * (35 - n) + U.left.toNat ≤ μ) ∨
  (n = 0 ∧ D = A0.D ∧ A0.D.st = 1 ∧ BN z B A0.c ∧ U.busy = false ∧ U.m = A0.m ∧ U.log = A0.log ∧ 2305 ≤ μ) ∨
  (D.st = (asN A0 n).D.st ∧ D.st ≠ 1 ∧ U.m = (asN A0 n).m ∧ U.log = (asN A0 n).log) ∨
  ((D.st = 3 ∨ D.st = 5) ∧ 49 ≤ z ∧ z < 55 ∧ U.log = (asN A0 n).log)
theorem DI.mono {z : Nat} {A0 : AS} {μ ν : Nat} {D : DD} {B : BD} {U : BusD} (h : DI z A0 μ D B U) (hl : μ ≤ ν) : DI z A0 ν D B U := by
  obtain ⟨n, h | h | h | h⟩ := h
  · obtain ⟨a, b, c, d, e, f, g, i, j⟩ := h
    exact ⟨n, .inl ⟨a, b, c, d, e, f, g, i, by omega⟩⟩
  · obtain ⟨a, b, c, d, e, f, g, j⟩ := h
    exact ⟨n, .inr (.inl ⟨a, b, c, d, e, f, g, by omega⟩)⟩
  · exact ⟨n, .inr (.inr (.inl h))⟩
  · exact ⟨n, .inr (.inr (.inr h))⟩
theorem dmaF_eq (D : DD) (B : BD) (U : BusD) (U1 : BusD) (i : INP) (h : tickF U = (U1, i)) : dmaF D B U = ⟨(gosF (if takes D i = true then takD D i else D) (if takes D i = true then takB D B i else B) U1).D, nextB (gosF (if takes D i = true then takD D i else D) (if takes D i = true then takB D B i else B) U1).B, (gosF (if takes D i = true then takD D i else D) (if takes D i = true then takB D B i else B) U1).U⟩ := by
  unfold dmaF
  rw [h]
theorem asS_ok {A : AS} (hs : A.D.st = 1) (hq : (asQ A).ok = true) : asS A = ⟨takD A.D (asI A), (takB A.D (nfs A.c) (asI A)).c, asM A, A.log ++ [asT A]⟩ := by unfold asS; rw [if_pos hs, if_pos hq]
theorem asS_no {A : AS} (hs : A.D.st = 1) (hq : (asQ A).ok = false) : asS A = { A with D := (nexF A.D (nfs A.c)).1 } := by unfold asS; rw [if_pos hs, if_neg (by rw [hq]; decide)]
section
variable {z : Nat} {m0 : Int → Int} {desc : Int} {μ : Nat} {D : DD} {B : BD} {U : BusD} {N : Nat}
/-- The registers' CRC, as the memory has it. -/
def sndM (m0 : Int → Int) (desc : Int) : Prop := crcF (m0 ((desc + 4 * (0 : Nat)) % 4294967296)) (m0 ((desc + 4 * (1 : Nat)) % 4294967296)) (m0 ((desc + 4 * (2 : Nat)) % 4294967296)) = m0 ((desc + 4 * (3 : Nat)) % 4294967296)
theorem di_go (hm : ∀ a, W32 (m0 a)) (hsd : 49 ≤ z → z < 55 → sndM m0 desc) (hU : BOk N U) (n : Nat) (hn : n < 36 → 64 * (35 - n) + 64 ≤ μ)
    (hD : D = (asN (as0 m0 desc) n).D) (hst : (asN (as0 m0 desc) n).D.st = 1) (hB : BN z B (asN (as0 m0 desc) n).c) (hb : U.busy = false) (hmm : U.m = (asN (as0 m0 desc) n).m) (hl : U.log = (asN (as0 m0 desc) n).log) :
    DI z (as0 m0 desc) μ (gosF D B U).D (nextB (gosF D B U).B) (gosF D B U).U := by
  have hA := aivN hm desc n
  have hN1 : asN (as0 m0 desc) (n + 1) = asS (asN (as0 m0 desc) n) := rfl
  generalize hAe : asN (as0 m0 desc) n = A at *
  have hdue : dues D = true := by rw [hD]; unfold dues; rw [hst, hA.wai]; rfl
  have hrel := nex_rel hB D (fun hp => by
      rcases hA.go hst with ⟨h0, _⟩ | ⟨_, i, h53, h54, _⟩
      · exact absurd (by rw [hD]; exact h0) hp
      · rw [h53, h54]) (fun hp z1 z2 => by
      rcases hA.go hst with ⟨h0, _⟩ | ⟨hr, _⟩
      · exact absurd (by rw [hD]; exact h0) hp
      · rw [show (49 : Nat) = 49 + 0 from rfl, show (50 : Nat) = 49 + 1 from rfl, show (51 : Nat) = 49 + 2 from rfl, show (52 : Nat) = 49 + 3 from rfl, hr 0 (by decide), hr 1 (by decide), hr 2 (by decide), hr 3 (by decide)]
        exact hsd z1 (by omega))
  unfold gosF
  rw [if_pos hdue]
  rcases hrel with e | ⟨z1, z2, hst3, hno⟩
  · rw [e]
    by_cases hq : (nexF D (nfs A.c)).2.ok = true
    · rw [if_pos hq]
      have hqA : (asQ A).ok = true := by unfold asQ; rw [← hD]; exact hq
      have hlt := hA.lt hst hqA
      have hQ : (nexF D (nfs A.c)).2 = asQ A := by unfold asQ; rw [← hD]
      have h1 := nex_ok hq
      have h64 : (1 + U.lat.headD 0).toNat ≤ 64 := by
        cases hl2 : U.lat with
        | nil => simp
        | cons x xs => have := hU.lat x (by rw [hl2]; simp); simp; omega
      refine ⟨n, .inl ⟨?_, by rw [hAe]; exact hst, by rw [hAe]; exact hqA, by rw [hAe]; exact hB.next, ?_, ?_, ?_, hlt, ?_⟩⟩
      · rw [hAe, h1, hb, hD]; rfl
      · unfold issF; rw [if_neg (by rw [hb]; decide)]
      · rw [hN1, asS_ok hst hqA]
        unfold issF; rw [if_neg (by rw [hb]; decide), hQ]
        show (if mapF (asQ A).a = true ∧ (asQ A).w = true then (fun x => if x = (asQ A).a then (asQ A).d else U.m x) else U.m) = asM A
        rw [hmm]; rfl
      · rw [hN1, asS_ok hst hqA]
        unfold issF; rw [if_neg (by rw [hb]; decide), hQ]
        show U.log ++ [⟨(asQ A).w, (asQ A).a, (asQ A).d, !mapF (asQ A).a, if mapF (asQ A).a = true ∧ (asQ A).w = false then U.m (asQ A).a else 0⟩] = A.log ++ [asT A]
        rw [hmm, hl]; rfl
      · unfold issF; rw [if_neg (by rw [hb]; decide)]
        show 64 * (35 - n) + (1 + U.lat.headD 0).toNat ≤ μ
        have := hn hlt
        omega
    · rw [if_neg hq]
      have hqA : (asQ A).ok = false := by unfold asQ; rw [← hD]; simpa using hq
      refine ⟨n + 1, .inr (.inr (.inl ⟨?_, nex_no (by simpa using hq), ?_, ?_⟩))⟩
      · rw [hN1, asS_no hst hqA, hD]
      · rw [hN1, asS_no hst hqA]; exact hmm
      · rw [hN1, asS_no hst hqA]; exact hl
  · rw [if_neg (by rw [hno]; decide)]
    exact ⟨n, .inr (.inr (.inr ⟨hst3, z1, z2, by rw [hAe]; exact hl⟩))⟩
theorem DI.step (hm : ∀ a, W32 (m0 a)) (hsd : 49 ≤ z → z < 55 → sndM m0 desc) (hU : BOk N U) (h : DI z (as0 m0 desc) (μ + 1) D B U) :
    DI z (as0 m0 desc) μ (dmaF D B U).D (dmaF D B U).B (dmaF D B U).U := by
  have still : D.st ≠ 1 → (dmaF D B U).D = D ∧ (dmaF D B U).U.m = U.m ∧ (dmaF D B U).U.log = U.log := fun q => by
    have q1 : (D.st == 1) = false := by simpa using q
    have ht : ∀ i, takes D i = false := fun i => by unfold takes; rw [q1]; rfl
    have hdu : dues D = false := by unfold dues; rw [q1]; rfl
    have hU1 : (tickF U).1.m = U.m ∧ (tickF U).1.log = U.log := by
      unfold tickF
      repeat' split
      all_goals exact ⟨rfl, rfl⟩
    rw [dmaF_eq D B U _ _ rfl, ht, if_neg (by decide), if_neg (by decide)]
    unfold gosF
    rw [hdu, if_neg (by decide)]
    exact ⟨rfl, hU1.1, hU1.2⟩
  obtain ⟨n, h | h | h | h⟩ := h
  · obtain ⟨hD, hst, hq, hB, hb, hmm, hl, hn, hle⟩ := h
    have hA := aivN hm desc n
    have hbb := hU.busy hb
    by_cases hleft : U.left - 1 > 0
    · have hT : tickF U = ({ U with left := U.left - 1 }, ⟨false, false, 0⟩) := by unfold tickF; rw [if_pos hb, if_pos hleft]
      have htk : takes D ⟨false, false, 0⟩ = false := by unfold takes; simp
      have hdu : dues D = false := by rw [hD]; unfold dues; simp
      rw [dmaF_eq D B U _ _ hT, htk, if_neg (by decide), if_neg (by decide)]
      unfold gosF
      rw [hdu, if_neg (by decide)]
      refine ⟨n, .inl ⟨hD, hst, hq, hB.next, hb, hmm, hl, hn, ?_⟩⟩
      show 64 * (35 - n) + (U.left - 1).toNat ≤ μ
      omega
    · have hN1 : asN (as0 m0 desc) (n + 1) = asS (asN (as0 m0 desc) n) := rfl
      rw [asS_ok hst hq] at hN1
      have hlg : U.log = (asN (as0 m0 desc) n).log ++ [asT (asN (as0 m0 desc) n)] := by rw [hl, hN1]
      have hT : tickF U = ({ U with left := U.left - 1, busy := false }, asI (asN (as0 m0 desc) n)) := by
        unfold tickF; rw [if_pos hb, if_neg hleft, hlg]
        simp [asI]
      have htk : takes D (asI (asN (as0 m0 desc) n)) = true := by rw [hD]; unfold takes asI; simp [hst]
      have hW : W32 (asI (asN (as0 m0 desc) n)).d := asT_w32 hA.wm
      have hB1 : BN z (takB D B (asI (asN (as0 m0 desc) n))) (asN (as0 m0 desc) (n + 1)).c := by
        rw [hN1]
        have := hB.tak (asN (as0 m0 desc) n).D (asI (asN (as0 m0 desc) n)) hW (fun hp => by
          rcases hA.go hst with ⟨_, hf, h4, _⟩ | ⟨_, i, _, _, _, ⟨h1, _⟩ | ⟨h2, _⟩⟩
          · omega
          · omega
          · omega)
        rw [hD]
        exact this
      have hD1 : takD D (asI (asN (as0 m0 desc) n)) = (asN (as0 m0 desc) (n + 1)).D := by rw [hN1, hD]; rfl
      rw [dmaF_eq D B U _ _ hT, htk, if_pos rfl, if_pos rfl, hD1]
      by_cases hs1 : (asN (as0 m0 desc) (n + 1)).D.st = 1
      · have hU1 : BOk N { U with left := U.left - 1, busy := false } := by
          have := hU.tick
          rw [hT] at this
          exact this
        exact di_go hm hsd hU1 (n + 1) (fun q => by omega) rfl hs1 hB1 rfl hmm hl
      · have hdu : dues (asN (as0 m0 desc) (n + 1)).D = false := by unfold dues; simp [hs1]
        unfold gosF
        rw [hdu, if_neg (by decide)]
        exact ⟨n + 1, .inr (.inr (.inl ⟨rfl, hs1, hmm, hl⟩))⟩
  · obtain ⟨rfl, hD, hst, hB, hb, hmm, hl, hle⟩ := h
    have hT : tickF U = (U, ⟨false, false, 0⟩) := by unfold tickF; rw [if_neg (by rw [hb]; decide)]
    have htk : takes D ⟨false, false, 0⟩ = false := by unfold takes; simp
    rw [dmaF_eq D B U _ _ hT, htk, if_neg (by decide), if_neg (by decide)]
    exact di_go hm hsd hU 0 (fun _ => by omega) hD hst hB hb hmm hl
  · obtain ⟨h1, h2, h3, h4⟩ := h
    obtain ⟨e1, e2, e3⟩ := still h2
    exact ⟨n, .inr (.inr (.inl ⟨by rw [e1]; exact h1, by rw [e1]; exact h2, by rw [e2]; exact h3, by rw [e3]; exact h4⟩))⟩
  · obtain ⟨h1, h2, h3, h4⟩ := h
    obtain ⟨e1, e2, e3⟩ := still (by omega)
    exact ⟨n, .inr (.inr (.inr ⟨by rw [e1]; exact h1, h2, h3, by rw [e3]; exact h4⟩))⟩
/-- At the end of the measure the master is no longer busy. -/
theorem DI.ended {A0 : AS} (hU : BOk N U) (h : DI z A0 0 D B U) : D.st ≠ 1 := by
  obtain ⟨n, h | h | h | h⟩ := h
  · obtain ⟨_, _, _, _, hb, _, _, _, hle⟩ := h
    have := hU.busy hb
    omega
  · obtain ⟨_, _, _, _, _, _, _, hle⟩ := h
    omega
  · exact h.2.1
  · have := h.1
    omega
/-- A master that is no longer busy: it stands where the atomic master stopped, or a guard has ended the run. -/
theorem DI.out {A0 : AS} (h : DI z A0 μ D B U) (hs : D.st ≠ 1) : ∃ n, (D.st = (asN A0 n).D.st ∧ U.m = (asN A0 n).m ∧ U.log = (asN A0 n).log) ∨ ((D.st = 3 ∨ D.st = 5) ∧ 49 ≤ z ∧ z < 55 ∧ U.log = (asN A0 n).log) := by
  obtain ⟨n, h | h | h | h⟩ := h
  · exact absurd (by rw [h.1]; exact h.2.1) hs
  · exact absurd (by rw [h.2.1]; exact h.2.2.1) hs
  · exact ⟨n, .inl ⟨h.1, h.2.2⟩⟩
  · exact ⟨n, .inr h⟩
end
end Go.Proofs.Qxb6500749a
