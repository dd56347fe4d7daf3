import Derived.Test.Qxb6500749aSy3
namespace Go.Proofs.Qxb6500749a
open Go.RowKit
/-! ### What the law asks -/
theorem iteP {P : IM → Prop} {q : Prop} [Decidable q] {x y : IM} (h1 : q → P x) (h2 : ¬ q → P y) : P (if q then x else y) := by
  by_cases hq : q
  · rw [if_pos hq]; exact h1 hq
  · rw [if_neg hq]; exact h2 hq
theorem itF_log (prog : List Int) (M : IM) : ∃ l, (itF prog M).log = M.log ++ l ∧ l.length ≤ 1 := by
  unfold itF itI
  exact iteP (P := fun N => ∃ l, N.log = M.log ++ l ∧ l.length ≤ 1) (fun _ => ⟨[], by simp, by simp⟩) (fun _ => iteP (P := fun N => ∃ l, N.log = M.log ++ l ∧ l.length ≤ 1) (fun _ => ⟨[], by simp, by simp⟩) (fun _ => iteP (P := fun N => ∃ l, N.log = M.log ++ l ∧ l.length ≤ 1) (fun _ => ⟨[], by simp, by simp⟩) (fun _ => iteP (P := fun N => ∃ l, N.log = M.log ++ l ∧ l.length ≤ 1) (fun _ => ⟨[], by simp, by simp⟩) (fun _ => iteP (P := fun N => ∃ l, N.log = M.log ++ l ∧ l.length ≤ 1) (fun _ => ⟨[], by simp, by simp⟩) (fun _ => iteP (P := fun N => ∃ l, N.log = M.log ++ l ∧ l.length ≤ 1) (fun _ => ⟨[], by simp, by simp⟩) (fun _ => iteP (P := fun N => ∃ l, N.log = M.log ++ l ∧ l.length ≤ 1) (fun _ => ⟨[], by simp, by simp⟩) (fun _ => iteP (P := fun N => ∃ l, N.log = M.log ++ l ∧ l.length ≤ 1) (fun _ => ⟨[], by simp, by simp⟩) (fun _ => iteP (P := fun N => ∃ l, N.log = M.log ++ l ∧ l.length ≤ 1) (fun _ => ⟨_, rfl, Nat.le_refl _⟩) (fun _ => iteP (P := fun N => ∃ l, N.log = M.log ++ l ∧ l.length ≤ 1) (fun _ => ⟨_, rfl, Nat.le_refl _⟩) (fun _ => iteP (P := fun N => ∃ l, N.log = M.log ++ l ∧ l.length ≤ 1) (fun _ => ⟨[], by simp, by simp⟩) (fun _ => iteP (P := fun N => ∃ l, N.log = M.log ++ l ∧ l.length ≤ 1) (fun _ => ⟨[], by simp, by simp⟩) (fun _ => iteP (P := fun N => ∃ l, N.log = M.log ++ l ∧ l.length ≤ 1) (fun _ => ⟨[], by simp, by simp⟩) (fun _ => iteP (P := fun N => ∃ l, N.log = M.log ++ l ∧ l.length ≤ 1) (fun _ => ⟨[], by simp, by simp⟩) (fun _ => ⟨[], by simp, by simp⟩))))))))))))))
theorem itN_log (prog : List Int) (A : IM) (n : Nat) : ∀ k, ∃ l, (itN prog A (n + k)).log = (itN prog A n).log ++ l
  | 0 => ⟨[], by simp⟩
  | k + 1 => by
    obtain ⟨l, hl⟩ := itN_log prog A n k
    obtain ⟨l2, h2, _⟩ := itF_log prog (itN prog A (n + k))
    exact ⟨l ++ l2, by show (itF prog (itN prog A (n + k))).log = _; rw [h2, hl, List.append_assoc]⟩
theorem itN_len (prog : List Int) (A : IM) : ∀ n, (itN prog A n).log.length ≤ A.log.length + n
  | 0 => Nat.le_refl _
  | n + 1 => by
    obtain ⟨l2, h2, h3⟩ := itF_log prog (itN prog A n)
    show (itF prog (itN prog A n)).log.length ≤ _
    rw [h2, List.length_append]
    have := itN_len prog A n
    omega
theorem itN_mono (prog : List Int) (A : IM) {a b : Nat} (h : a ≤ b) : ∃ l, (itN prog A b).log = (itN prog A a).log ++ l := by
  obtain ⟨k, rfl⟩ := Nat.exists_eq_add_of_le h
  exact itN_log prog A a k
def halR (R : RG) : Bool := andB (andB R.last.del.c R.last.sha.c) 4 != 0
def traR (R : RG) : Bool := andB (andB R.last.del.c R.last.sha.c) 8 != 0
theorem fl_z : (andB (andB 0 0) 4 != 0) = false ∧ (andB (andB 0 0) 8 != 0) = false := by decide
theorem fl_1 : (andB (andB 1 1) 4 != 0) = false ∧ (andB (andB 1 1) 8 != 0) = false := by decide
theorem fl_3 : (andB (andB 3 3) 4 != 0) = false ∧ (andB (andB 3 3) 8 != 0) = false := by decide
theorem fl_4 : (andB (andB 4 4) 4 != 0) = true ∧ (andB (andB 4 4) 8 != 0) = false := by decide
theorem fl_8 : (andB (andB 8 8) 4 != 0) = false ∧ (andB (andB 8 8) 8 != 0) = true := by decide
theorem fl_nfl {R : RG} (he : R.last.sha = R.last.del) (h : nfl R.last.del) : halR R = false ∧ traR R = false := by
  unfold halR traR
  rw [he]
  rcases h with h | h | h
  · rw [h]; exact fl_z
  · rw [h]; exact fl_1
  · rw [h]; exact fl_3
theorem fl_shw {R : RG} {M : IM} {md : Int} (he : R.last.sha = R.last.del) (h : Shw M md R.last.del) : halR R = M.hal ∧ traR R = M.tra := by
  unfold halR traR
  rw [he]
  rcases h with ⟨h1, h2, _, h4⟩ | ⟨h1, h2, _, h4⟩
  · rw [h4, h1, h2]; exact fl_4
  · rw [h4, h1, h2]; exact fl_8
section
variable {R : RG}
theorem f4_unf (h : PF R) (n : Nat) (hn : R.reps.length ≤ n) : ∃ l, (itN R.prog (im0 R.img) n).log = R.uP.log ++ l := by
  cases hr : R.run
  · obtain ⟨_, p2, _⟩ := h.pre hr
    exact ⟨_, by rw [p2]; rfl⟩
  · obtain ⟨_, inp, k, _, hs⟩ := h.go hr
    have hle := hs.le
    rcases hs.st with s | s | s | s | s
    · obtain ⟨_, _, _, _, _, _, hi, _⟩ := s
      rw [hi.2.2]; exact itN_mono _ _ (by omega)
    · obtain ⟨_, _, _, _, _, _, _, _, hi, _⟩ := s
      rw [hi.2.2]; exact itN_mono _ _ (by omega)
    · obtain ⟨_, _, _, _, _, _, _, _, hi, _⟩ := s
      rw [hi.2.2]; exact itN_mono _ _ (by omega)
    · obtain ⟨_, _, _, _, _, _, _, _, _, _, hg, _, hlt⟩ := s
      rw [hg]; exact itN_mono (a := k + 1) _ _ (by omega)
    · obtain ⟨_, _, _, hi, _⟩ := s
      rw [hi.2.2]; exact itN_mono _ _ (by omega)
theorem shw_no {M : IM} {md : Int} {S : BU} (h : Shw M md S) : ¬ fnl M := fun f => by
  rcases h with ⟨h1, _⟩ | ⟨_, h2, _⟩
  · rw [f.1] at h1; cases h1
  · rw [f.2] at h2; cases h2
theorem f4_stop (h : PF R) (hr : R.run = true) {n : Nat} (hf : ¬ fnl (itN R.prog (im0 R.img) n)) (hb : ∀ j, j < n → fnl (itN R.prog (im0 R.img) j)) (hlen : n + 67 * (itN R.prog (im0 R.img) n).log.length + 4 ≤ R.reps.length) : (halR R || traR R) = true := by
  obtain ⟨he, inp, k, _, hs⟩ := h.go hr
  have kn : fnl (itN R.prog (im0 R.img) k) → k < n := fun f => by
    rcases Nat.lt_or_ge k n with q | q
    · exact q
    · exfalso
      rcases Nat.lt_or_ge n k with q2 | q2
      · exact hf (hs.bef n q2)
      · have : k = n := by omega
        rw [this] at f
        exact hf f
  have lg : ∀ {j : Nat}, j ≤ n → (itN R.prog (im0 R.img) j).log.length ≤ (itN R.prog (im0 R.img) n).log.length := fun hj => by
    obtain ⟨l, hl⟩ := itN_mono R.prog (im0 R.img) hj
    rw [hl]; simp
  rcases hs.st with s | s | s | s | s
  · obtain ⟨_, _, f, _, _, _, _, hle⟩ := s
    have h1 := kn f
    have h2 := lg (j := k) (by omega)
    omega
  · obtain ⟨_, _, _, _, f, _, _, _, _, hle, _⟩ := s
    have h1 := kn f
    have h2 := lg (j := k) (by omega)
    omega
  · obtain ⟨_, _, _, _, f, _, _, _, _, hle, _⟩ := s
    have h1 := kn f
    have h2 := lg (j := k) (by omega)
    omega
  · obtain ⟨_, _, _, hq, f, _, _, _, _, _, hg, hle, _⟩ := s
    have h1 := kn f
    have h2 := lg (j := k + 1) (by omega)
    have h3 : (itN R.prog (im0 R.img) (k + 1)).log.length = (itN R.prog (im0 R.img) k).log.length + 1 := by
      show (itF R.prog (itN R.prog (im0 R.img) k)).log.length = _
      rw [hq.log]; simp
    omega
  · obtain ⟨S, hS, _, _, _, hd⟩ := s
    have hk : k = n := by
      have hnf := shw_no hS
      rcases Nat.lt_trichotomy k n with q | q | q
      · exact absurd (hb k q) hnf
      · exact q
      · exact absurd (hs.bef n q) hf
    subst hk
    rcases hd with ⟨_, _, hle⟩ | ⟨_, _, _, hle⟩ | ⟨_, e, _⟩
    · omega
    · omega
    · rw [← e] at hS
      obtain ⟨z1, z2⟩ := fl_shw he hS
      rw [z1, z2]
      rcases hS with ⟨h1, _⟩ | ⟨_, h2, _⟩
      · rw [h1]; rfl
      · rw [h2]; simp
theorem f4_end (h : PF R) (hr : R.run = true) {n : Nat} (hf : ¬ fnl (itN R.prog (im0 R.img) n)) (hb : ∀ j, j < n → fnl (itN R.prog (im0 R.img) j)) (hst : (halR R || traR R) = true) :
    halR R = (itN R.prog (im0 R.img) n).hal ∧ traR R = (itN R.prog (im0 R.img) n).tra ∧ R.uP.log = (itN R.prog (im0 R.img) n).log ∧ (∀ j, j < 16 → R.BP.get j = (itN R.prog (im0 R.img) n).r j ∧ R.BP.get (18 + j) = (itN R.prog (im0 R.img) n).r j) ∧ R.BP.get 16 = (itN R.prog (im0 R.img) n).pc ∧ R.BP.get 34 = (itN R.prog (im0 R.img) n).pc := by
  obtain ⟨he, inp, k, href, hs⟩ := h.go hr
  have no : nfl R.last.del → False := fun q => by
    obtain ⟨z1, z2⟩ := fl_nfl he q
    rw [z1, z2] at hst
    cases hst
  rcases hs.st with s | s | s | s | s
  · obtain ⟨_, _, _, _, _, q, _⟩ := s
    exact (no q).elim
  · obtain ⟨_, _, _, _, _, _, _, q, _⟩ := s
    exact (no q).elim
  · obtain ⟨_, _, _, _, _, _, _, q, _⟩ := s
    exact (no q).elim
  · obtain ⟨_, _, _, _, _, _, _, q, _⟩ := s
    exact (no q).elim
  · obtain ⟨S, hS, hc, hi, _, hd⟩ := s
    have hk : k = n := by
      have hnf := shw_no hS
      rcases Nat.lt_trichotomy k n with q | q | q
      · exact absurd (hb k q) hnf
      · exact q
      · exact absurd (hs.bef n q) hf
    subst hk
    rcases hd with ⟨_, q, _⟩ | ⟨_, q, _⟩ | ⟨_, e, _, hc2⟩
    · exact (no q).elim
    · exact (no q).elim
    · rw [← e] at hS
      obtain ⟨z1, z2⟩ := fl_shw he hS
      have gt : ∀ s, R.BP.get s = R.BP.c s := fun s => get_snd (by rw [href.fs]; exact snd_nil s)
      have m0 : ∀ j, j < 18 → R.BP.c j = (runM R.prog inp R.reps.length).c j := fun j hj => by have := href.w.mn.m.c j hj; rw [Nat.zero_add] at this; exact this
      have m1 : ∀ j, j < 18 → R.BP.c (18 + j) = (runM R.prog inp (R.reps.length - 2)).c j := fun j hj => href.w.sh.s.c j hj
      refine ⟨z1, z2, hi.2.2, fun j hj => ⟨?_, ?_⟩, ?_, ?_⟩
      · rw [gt, m0 j (by omega)]; exact hc.r j hj
      · rw [gt, m1 j (by omega)]; exact hc2.r j hj
      · rw [gt, m0 16 (by decide)]; exact hc.pc
      · rw [gt, m1 16 (by decide)]; exact hc2.pc
end
/-! ### The interpreter's words stay words -/
theorem alu_w32 {op a b : Int} (ha : W32 a) : W32 (aluF op a b) := by
  unfold aluF
  repeat' split
  all_goals first
    | exact W32.emod _
    | exact W32.band _ _
    | exact W32.bor _ _
    | exact W32.bxor _ _
    | exact w32_zero
    | exact ⟨by decide, by decide⟩
    | (constructor
       · exact Int.ediv_nonneg ha.1 (Int.le_of_lt (Int.pow_pos (by decide)))
       · exact Int.lt_of_le_of_lt (Int.ediv_le_self _ ha.1) ha.2)
theorem i12_w32 (x : Int) : W32 (decF x).i12 ∧ W32 (decF x).i16 := ⟨W32.emod _, W32.emod _⟩
theorem itF_ok {prog : List Int} {M : IM} (h : M.Ok) : (itF prog M).Ok := by
  have hd := i12_w32 (fetF prog M.pc)
  have hr : ∀ (k : Nat) (v : Int), W32 v → ∀ j, W32 (upd M.r k v j) := fun k v hv j => W32.upd h.r hv k j
  unfold itF
  split
  · exact h
  · generalize decF (fetF prog M.pc) = I at hd
    unfold itI
    refine iteP (P := IM.Ok) (fun _ => ⟨h.r, W32.emod _, h.m⟩) (fun _ => iteP (P := IM.Ok) (fun _ => ⟨h.r, h.pc, h.m⟩) (fun _ => iteP (P := IM.Ok) (fun _ => ⟨hr _ _ hd.2, W32.emod _, h.m⟩) (fun _ => iteP (P := IM.Ok) (fun _ => ⟨hr _ _ (W32.emod _), W32.emod _, h.m⟩) (fun _ => iteP (P := IM.Ok) (fun _ => ⟨hr _ _ (h.r _), W32.emod _, h.m⟩) (fun _ => iteP (P := IM.Ok) (fun _ => ⟨hr _ _ (W32.emod _), W32.emod _, h.m⟩) (fun _ => iteP (P := IM.Ok) (fun _ => ⟨hr _ _ (W32.band _ _), W32.emod _, h.m⟩) (fun _ => iteP (P := IM.Ok) (fun _ => ?ld) (fun _ => iteP (P := IM.Ok) (fun _ => ?st) (fun _ => iteP (P := IM.Ok) (fun _ => ?br) (fun _ => iteP (P := IM.Ok) (fun _ => ⟨hr _ _ (W32.emod _), W32.emod _, h.m⟩) (fun _ => iteP (P := IM.Ok) (fun _ => ⟨h.r, h.r _, h.m⟩) (fun _ => iteP (P := IM.Ok) (fun _ => ⟨hr _ _ (alu_w32 (h.r _)), W32.emod _, h.m⟩) (fun _ => ⟨h.r, h.pc, h.m⟩)))))))))))))
    case ld =>
      refine ⟨fun j => ?_, W32.emod _, h.m⟩
      show W32 ((if _ then upd M.r I.rd _ else M.r) j)
      split
      · exact hr _ _ (h.m _) j
      · exact h.r j
    case st =>
      refine ⟨h.r, W32.emod _, fun a => ?_⟩
      show W32 (accM M.m true _ _ a)
      unfold accM
      split
      · exact w32_ite (h.r _) (h.m a)
      · exact h.m a
    case br =>
      refine ⟨h.r, ?_, h.m⟩
      show W32 (if _ then _ else _)
      split <;> exact W32.emod _
theorem im0_ok {img : Int → Int} (h : ∀ a, W32 (img a)) : (im0 img).Ok := ⟨fun _ => w32_zero, w32_zero, h⟩
theorem itN_ok {prog : List Int} {A : IM} (h : A.Ok) : ∀ n, (itN prog A n).Ok
  | 0 => h
  | n + 1 => itF_ok (itN_ok h n)
end Go.Proofs.Qxb6500749a
