import Derived.Test.Qxb6500749aAcc
namespace Go.Proofs.Qxb6500749a
open Go.RowKit
/-! ### The atomic master's transfers, one by one -/
theorem as_step {A : AS} (hs : A.D.st = 1) (hq : (asQ A).ok = true) : (asS A).log = A.log ++ [asT A] ∧ (asS A).m = asM A ∧ (asS A).D.st = if (asT A).e = true then 4 else 1 := by
  rw [asS_ok hs hq]
  refine ⟨rfl, rfl, ?_⟩
  show (takD A.D (asI A)).st = _
  unfold takD
  cases he : (asT A).e
  · rw [if_neg (show ¬ (asI A).e = true by show ¬ (asT A).e = true; rw [he]; decide), if_neg (by decide)]
    unfold absD
    repeat' split
    all_goals exact hs
  · rw [if_pos (show (asI A).e = true from he), if_pos rfl]
def ra (desc : Int) (j : Nat) : Int := (desc + 4 * (j : Nat)) % 4294967296
theorem nex_good {A : AS} {x0 x1 x2 x3 : Int} {i : Nat} (h0 : A.c 49 = x0) (h1 : A.c 50 = x1) (h2 : A.c 51 = x2) (h3 : A.c 52 = x3) (hg : crcF x0 x1 x2 = x3) (h16 : ¬ x2 > 16) (h53 : A.c 53 = (i : Nat)) (h54 : A.c 54 = (i : Nat)) (hp : A.D.ph ≠ 0) :
    nexF A.D (nfs A.c) = if A.D.ph = 2 then (A.D, ⟨true, true, (x1 + 4 * (i : Nat)) % 4294967296, A.D.buf⟩) else if ((i : Nat) : Int) < x2 then (A.D, ⟨true, false, (x0 + 4 * (i : Nat)) % 4294967296, 0⟩) else ({ A.D with st := 2 }, noRQ) := by
  have hb : badF (nfs A.c) = false := by
    unfold badF
    rw [nfs_get, nfs_get, nfs_get, nfs_get, h0, h1, h2, h3, hg]
    simp; omega
  unfold nexF
  rw [if_neg hp, hb, if_neg (by decide), nfs_get, nfs_get, nfs_get, nfs_get, nfs_get, h0, h1, h2, h53, h54]
  rw [if_neg (by simp)]
theorem nex_bad {A : AS} {x0 x1 x2 x3 : Int} (h0 : A.c 49 = x0) (h1 : A.c 50 = x1) (h2 : A.c 51 = x2) (h3 : A.c 52 = x3) (hg : crcF x0 x1 x2 ≠ x3 ∨ x2 > 16) (hp : A.D.ph ≠ 0) : nexF A.D (nfs A.c) = ({ A.D with st := 3 }, noRQ) := by
  have hb : badF (nfs A.c) = true := by
    unfold badF
    rw [nfs_get, nfs_get, nfs_get, nfs_get, h0, h1, h2, h3]
    rcases hg with q | q
    · have : (crcF x0 x1 x2 != x3) = true := by simpa using q
      rw [this]; rfl
    · rw [decide_eq_true q]; simp
  unfold nexF
  rw [if_neg hp, hb, if_pos rfl]
section
variable {f : Int → Int} {desc : Int}
theorem fetch_round (hf : ∀ a, W32 (f a)) {n : Nat} (hn : n < 4) (hs : (asN (as0 f desc) n).D.st = 1) :
    (asN (as0 f desc) n).m = f ∧ (asN (as0 f desc) (n + 1)).log = (asN (as0 f desc) n).log ++ [accT f false (ra desc n) 0] ∧ (asN (as0 f desc) (n + 1)).m = f ∧ (asN (as0 f desc) (n + 1)).D.st = if mapF (ra desc n) = true then 1 else 4 := by
  have hA := aivN hf desc n
  have hN : asN (as0 f desc) (n + 1) = asS (asN (as0 f desc) n) := rfl
  rw [hN]
  generalize asN (as0 f desc) n = A at *
  rcases hA.go hs with ⟨hp, hft, _, hm, _⟩ | ⟨_, i, _, _, _, h⟩
  case inr => rcases h with ⟨_, h⟩ | ⟨_, h, _⟩ <;> omega
  have hQ : asQ A = ⟨true, false, ra desc n, 0⟩ := by
    unfold asQ nexF ra; rw [if_pos hp, hA.ds, hft]
  obtain ⟨s1, s2, s3⟩ := as_step hs (by rw [hQ])
  have hT : asT A = accT f false (ra desc n) 0 := by unfold asT; rw [hQ, hm]; rfl
  have hM : asM A = f := by unfold asM; rw [hQ, hm, if_neg (by simp)]
  refine ⟨hm, by rw [s1, hT], by rw [s2, hM], ?_⟩
  rw [s3, hT]
  show (if (!mapF (ra desc n)) = true then (4 : Int) else 1) = _
  cases mapF (ra desc n) <;> rfl
theorem four_regs (hf : ∀ a, W32 (f a)) {n : Nat} (hn : 4 ≤ n) (hs : (asN (as0 f desc) n).D.st = 1) : (asN (as0 f desc) n).c 49 = f (ra desc 0) ∧ (asN (as0 f desc) n).c 50 = f (ra desc 1) ∧ (asN (as0 f desc) n).c 51 = f (ra desc 2) ∧ (asN (as0 f desc) n).c 52 = f (ra desc 3) ∧
    ∃ i : Nat, (asN (as0 f desc) n).c 53 = (i : Nat) ∧ (asN (as0 f desc) n).c 54 = (i : Nat) ∧ ((asN (as0 f desc) n).D.ph = 1 ∧ n = 4 + 2 * i ∨ (asN (as0 f desc) n).D.ph = 2 ∧ n = 5 + 2 * i) := by
  have hA := aivN hf desc n
  rcases hA.go hs with ⟨_, _, h, _⟩ | ⟨hr, i, h53, h54, _, h⟩
  · omega
  · refine ⟨hr 0 (by decide), hr 1 (by decide), hr 2 (by decide), hr 3 (by decide), i, h53, h54, ?_⟩
    rcases h with h | ⟨h1, h2, _⟩
    · exact .inl h
    · exact .inr ⟨h1, h2⟩
theorem at_bad (hf : ∀ a, W32 (f a)) (hs : (asN (as0 f desc) 4).D.st = 1) (hg : crcF (f (ra desc 0)) (f (ra desc 1)) (f (ra desc 2)) ≠ f (ra desc 3) ∨ f (ra desc 2) > 16) :
    (asN (as0 f desc) 5).D.st = 3 ∧ (asN (as0 f desc) 5).log = (asN (as0 f desc) 4).log ∧ (asN (as0 f desc) 5).m = (asN (as0 f desc) 4).m := by
  obtain ⟨h0, h1, h2, h3, i, _, _, h⟩ := four_regs hf (Nat.le_refl 4) hs
  have hN : asN (as0 f desc) 5 = asS (asN (as0 f desc) 4) := rfl
  rw [hN]
  generalize asN (as0 f desc) 4 = A at *
  have hx := nex_bad h0 h1 h2 h3 hg (by omega)
  rw [asS_no hs (by unfold asQ; rw [hx]; rfl), hx]
  exact ⟨rfl, rfl, rfl⟩
theorem at_read (hf : ∀ a, W32 (f a)) {i : Nat} (hs : (asN (as0 f desc) (4 + 2 * i)).D.st = 1) (hg : crcF (f (ra desc 0)) (f (ra desc 1)) (f (ra desc 2)) = f (ra desc 3)) (h16 : ¬ f (ra desc 2) > 16) (hi : ((i : Nat) : Int) < f (ra desc 2)) {a : Int} (ha : (f (ra desc 0) + 4 * (i : Nat)) % 4294967296 = a) :
    (asN (as0 f desc) (5 + 2 * i)).log = (asN (as0 f desc) (4 + 2 * i)).log ++ [accT (asN (as0 f desc) (4 + 2 * i)).m false a 0] ∧ (asN (as0 f desc) (5 + 2 * i)).m = (asN (as0 f desc) (4 + 2 * i)).m ∧ (asN (as0 f desc) (5 + 2 * i)).D.st = (if mapF a = true then 1 else 4) ∧ (mapF a = true → (asN (as0 f desc) (5 + 2 * i)).D.buf = (asN (as0 f desc) (4 + 2 * i)).m a) := by
  obtain ⟨h0, h1, h2, h3, i', h53, h54, h⟩ := four_regs hf (by omega) hs
  have hN : asN (as0 f desc) (5 + 2 * i) = asS (asN (as0 f desc) (4 + 2 * i)) := by rw [show 5 + 2 * i = (4 + 2 * i) + 1 by omega]; rfl
  rw [hN]
  generalize asN (as0 f desc) (4 + 2 * i) = A at *
  have hp : A.D.ph = 1 := by rcases h with h | h; exact h.1; omega
  have hii : i' = i := by rcases h with h | h <;> omega
  subst hii
  have hx := nex_good h0 h1 h2 h3 hg h16 h53 h54 (by omega)
  rw [if_neg (by omega), if_pos hi, ha] at hx
  have hQ : asQ A = ⟨true, false, a, 0⟩ := by unfold asQ; rw [hx]
  obtain ⟨s1, s2, s3⟩ := as_step hs (by rw [hQ])
  have hT : asT A = accT A.m false a 0 := by unfold asT; rw [hQ]; rfl
  have hM : asM A = A.m := by unfold asM; rw [hQ, if_neg (by simp)]
  refine ⟨by rw [s1, hT], by rw [s2, hM], ?_, fun hm => ?_⟩
  · rw [s3, hT]
    show (if (!mapF a) = true then (4 : Int) else 1) = _
    cases mapF a <;> rfl
  · rw [asS_ok hs (by rw [hQ])]
    show (takD A.D (asI A)).buf = _
    have he : (asI A).e = false := by show (asT A).e = false; rw [hT]; show (!mapF a) = false; rw [hm]; rfl
    unfold takD absD
    rw [he, if_neg (by decide), if_neg (by show ¬ A.D.ph = 0; omega), if_pos hp]
    show (asT A).r = _
    rw [hT]
    show (if mapF a = true ∧ false = false then A.m a else 0) = _
    rw [if_pos ⟨hm, rfl⟩]
theorem at_write (hf : ∀ a, W32 (f a)) {i : Nat} (hs : (asN (as0 f desc) (5 + 2 * i)).D.st = 1) (hg : crcF (f (ra desc 0)) (f (ra desc 1)) (f (ra desc 2)) = f (ra desc 3)) (h16 : ¬ f (ra desc 2) > 16) {a : Int} (ha : (f (ra desc 1) + 4 * (i : Nat)) % 4294967296 = a) :
    (asN (as0 f desc) (6 + 2 * i)).log = (asN (as0 f desc) (5 + 2 * i)).log ++ [accT (asN (as0 f desc) (5 + 2 * i)).m true a (asN (as0 f desc) (5 + 2 * i)).D.buf] ∧ (asN (as0 f desc) (6 + 2 * i)).m = accM (asN (as0 f desc) (5 + 2 * i)).m true a (asN (as0 f desc) (5 + 2 * i)).D.buf ∧ (asN (as0 f desc) (6 + 2 * i)).D.st = (if mapF a = true then 1 else 4) := by
  obtain ⟨h0, h1, h2, h3, i', h53, h54, h⟩ := four_regs hf (by omega) hs
  have hN : asN (as0 f desc) (6 + 2 * i) = asS (asN (as0 f desc) (5 + 2 * i)) := by rw [show 6 + 2 * i = (5 + 2 * i) + 1 by omega]; rfl
  rw [hN]
  generalize asN (as0 f desc) (5 + 2 * i) = A at *
  have hp : A.D.ph = 2 := by rcases h with h | h; omega; exact h.1
  have hii : i' = i := by rcases h with h | h <;> omega
  subst hii
  have hx := nex_good h0 h1 h2 h3 hg h16 h53 h54 (by omega)
  rw [if_pos hp, ha] at hx
  have hQ : asQ A = ⟨true, true, a, A.D.buf⟩ := by unfold asQ; rw [hx]
  obtain ⟨s1, s2, s3⟩ := as_step hs (by rw [hQ])
  have hT : asT A = accT A.m true a A.D.buf := by unfold asT; rw [hQ]; rfl
  have hM : asM A = accM A.m true a A.D.buf := by unfold asM; rw [hQ]; rfl
  refine ⟨by rw [s1, hT], by rw [s2, hM], ?_⟩
  rw [s3, hT]
  show (if (!mapF a) = true then (4 : Int) else 1) = _
  cases mapF a <;> rfl
theorem at_done (hf : ∀ a, W32 (f a)) {i : Nat} (hs : (asN (as0 f desc) (4 + 2 * i)).D.st = 1) (hg : crcF (f (ra desc 0)) (f (ra desc 1)) (f (ra desc 2)) = f (ra desc 3)) (h16 : ¬ f (ra desc 2) > 16) (hi : ¬ ((i : Nat) : Int) < f (ra desc 2)) :
    (asN (as0 f desc) (5 + 2 * i)).D.st = 2 ∧ (asN (as0 f desc) (5 + 2 * i)).log = (asN (as0 f desc) (4 + 2 * i)).log ∧ (asN (as0 f desc) (5 + 2 * i)).m = (asN (as0 f desc) (4 + 2 * i)).m := by
  obtain ⟨h0, h1, h2, h3, i', h53, h54, h⟩ := four_regs hf (by omega) hs
  have hN : asN (as0 f desc) (5 + 2 * i) = asS (asN (as0 f desc) (4 + 2 * i)) := by rw [show 5 + 2 * i = (4 + 2 * i) + 1 by omega]; rfl
  rw [hN]
  generalize asN (as0 f desc) (4 + 2 * i) = A at *
  have hp : A.D.ph = 1 := by rcases h with h | h; exact h.1; omega
  have hii : i' = i := by rcases h with h | h <;> omega
  subst hii
  have hx := nex_good h0 h1 h2 h3 hg h16 h53 h54 (by omega)
  rw [if_neg (by omega), if_neg hi] at hx
  rw [asS_no hs (by unfold asQ; rw [hx]; rfl), hx]
  exact ⟨rfl, rfl, rfl⟩
end
end Go.Proofs.Qxb6500749a
