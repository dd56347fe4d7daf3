import Derived.Test.Qxb6500749aReg2
namespace Go.Proofs.Qxb6500749a
open Go
section
variable {P : Program} {ops : Array Oper} (fl pu : List Nat)
/-! ### A region that draws: a chain, then operations that float, then a chain -/
theorem setAll_size (l : List Nat) : ∀ listed : Array Bool, (setAll listed l).size = listed.size := by
  unfold setAll
  induction l with
  | nil => intro _; rfl
  | cons i l ih => intro listed; rw [List.foldl_cons, ih]; simp
theorem wpAny_ch {R : Exit → Act → World → Prop} (fuel : Nat) : ∀ (ch : List Nat) (listed : Array Bool) (a : Act) (w : World), chB2 fl ops ch listed = true →
    wpCh (fun _ => True) (fun _ => false) (fun a' w' => wpAny P .any ops R fuel (setAll listed ch) a' w') P ops ch a w → wpAny P .any ops R (ch.length + fuel) listed a w
  | [], listed, a, w, _, h => by
    simp only [List.length_nil, Nat.zero_add]; exact h
  | c :: ch, listed, a, w, hB, h => by
    simp only [chB2, Bool.and_eq_true, decide_eq_true_eq, Bool.not_eq_true'] at hB
    obtain ⟨⟨hr, hc⟩, hB'⟩ := hB
    rw [show (c :: ch).length + fuel = (ch.length + fuel) + 1 from by simp; omega]
    refine ⟨fun h1 => (by rw [hr] at h1; cases h1), fun i hi => ?_⟩
    rw [hr] at hi
    have hic : i = c := by simpa using hi
    subst hic
    exact wpOp_noway (wpOp_mono (fun a' w' h' => wpAny_ch fuel ch _ a' w' hB' h'.2) h)
def clB (ops : Array Oper) (listed : Array Bool) : Bool :=
  (List.range ops.size).all fun j => match ops[j]? with
    | some oj => !listed.getD j false || oj.after.all fun e => !Region.binds .any e || listed.getD e.on false
    | none => true
theorem clB_spec {listed : Array Bool} (h : clB ops listed = true) : ∀ j oj, ops[j]? = some oj → listed.getD j false = true → ∀ e ∈ oj.after, Region.binds .any e = true → listed.getD e.on false = true := by
  intro j oj hj hl e he hb
  have hjs : j < ops.size := (Array.getElem?_eq_some_iff.1 hj).1
  have h1 := List.all_eq_true.1 h j (List.mem_range.2 hjs)
  simp only [hj, hl, Bool.not_true, Bool.false_or] at h1
  have h2 := (Array.all_eq_true_iff_forall_mem.1 h1) e he
  rw [hb] at h2
  simpa using h2
theorem wp_region_ctc {id : Nat} {R : Exit → Act → World → Prop} {a : Act} {w : World} {l : List Oper} (ch1 fl ch2 : List Nat) (fuel : Nat) (pu : List Nat) (hm : P.follows .mixedOrders = true)
    (hs : shapeB l.toArray = true) (hn : ch1.length + (fl.length + (ch2.length + fuel)) = l.length) (hc1 : chB2 fl l.toArray ch1 (Array.replicate l.toArray.size false) = true)
    (hcl : clB l.toArray (setAll (Array.replicate l.toArray.size false) ch1) = true) (hB : flB2 fl l.toArray ch2 fl (setAll (Array.replicate l.toArray.size false) ch1) = true)
    (h : wpCh (fun _ => True) (fun _ => false) (fun a1 w1 => ∃ J : World → Prop, J w1 ∧ wpFl J pu P l.toArray (fun a' => wpCh J (needB l.toArray fl pu) (fun a2 w2 => wpAnyJ J fl (needB l.toArray fl pu) (R .normal) P l.toArray fuel (setAll (setAll (setAll (Array.replicate l.toArray.size false) ch1) fl) ch2) a2 w2) P l.toArray ch2 a' w1) fl a1) P l.toArray ch1 a w.drew) :
    (Code.region id l.toArray true).wp P R a w := by
  refine wp_region_any hm ?_
  have key := wpAny_ch (P := P) (ops := l.toArray) fl (R := R) (fl.length + (ch2.length + fuel)) ch1 (Array.replicate l.toArray.size false) a w.drew hc1 ?_
  · rw [hn] at key
    simpa using key
  · have mono : ∀ (K K' : Act → World → Prop), (∀ a w, K a w → K' a w) → ∀ (ch : List Nat) (a : Act) (w : World), wpCh (fun _ => True) (fun _ => false) K P l.toArray ch a w → wpCh (fun _ => True) (fun _ => false) K' P l.toArray ch a w := by
      intro K K' hk ch
      induction ch with
      | nil => intro a w h; exact hk _ _ h
      | cons c ch ih => intro a w h; exact wpOp_mono (fun a' w' h' => ⟨h'.1, ih a' w' h'.2⟩) h
    refine mono _ _ (fun a1 w1 h1 => ?_) ch1 a w.drew h
    obtain ⟨J, hJ, h2⟩ := h1
    exact wpAny_of_J J fl (needB l.toArray fl pu) (R .normal) (fun _ _ h => h) _ _ _ _ (wpAnyJ_of_fl2 J fl pu (needB l.toArray fl pu) (R .normal) (shape_of hs) fuel ch2 fl _ a1 w1 (by rw [setAll_size]; simp) (clB_spec hcl) hJ hB h2)
end
end Go.Proofs.Qxb6500749a
