import Derived.Test.Qxb6500749aReg
namespace Go.Proofs.Qxb6500749a
open Go
section
variable {P : Program} {ops : Array Oper} (J : World → Prop) (fl pu : List Nat) (nd : Nat → Bool) (Q : Act → World → Prop)
/-! ### A region whose tail may come in several orders -/
def setAll (listed : Array Bool) (l : List Nat) : Array Bool := l.foldl (fun s i => s.setIfInBounds i true) listed
def chB2 (ops : Array Oper) : List Nat → Array Bool → Bool
  | [], _ => true
  | c :: cs, listed => decide (Region.ready .any ops listed = [c]) && !fl.contains c && chB2 ops cs (listed.setIfInBounds c true)
def flB2 (ops : Array Oper) (ch : List Nat) : List Nat → Array Bool → Bool
  | [], listed => chB2 fl ops ch listed
  | i :: l, listed => fl.contains i && (Region.ready .any ops listed).contains i && Region.free .any ops listed i && flB2 ops ch l (listed.setIfInBounds i true)
theorem wpAnyJ_of_ch2 (fuel : Nat) : ∀ (ch : List Nat) (listed : Array Bool) (a : Act) (w : World), chB2 fl ops ch listed = true → wpCh J nd (fun a' w' => wpAnyJ J fl nd Q P ops fuel (setAll listed ch) a' w') P ops ch a w → wpAnyJ J fl nd Q P ops (ch.length + fuel) listed a w
  | [], listed, a, w, _, h => by
    simp only [List.length_nil, Nat.zero_add]; exact h
  | c :: ch, listed, a, w, hB, h => by
    simp only [chB2, Bool.and_eq_true, decide_eq_true_eq, Bool.not_eq_true'] at hB
    obtain ⟨⟨hr, hc⟩, hB'⟩ := hB
    rw [show (c :: ch).length + fuel = (ch.length + fuel) + 1 from by simp; omega]
    refine ⟨fun h1 => (by rw [hr] at h1; cases h1), fun i hi => ?_⟩
    rw [hr] at hi
    have hic : i = c := by simpa using hi
    subst hic
    refine wpOp_mono (fun a' w' h' => ⟨?_, wpAnyJ_of_ch2 fuel ch _ a' w' hB' h'.2⟩) h
    rw [if_neg (by rw [hc]; simp)]
    exact h'.1
theorem wpAnyJ_of_fl2 (S : Shape ops fl pu nd) (fuel : Nat) (ch : List Nat) : ∀ (l : List Nat) (listed : Array Bool) (a : Act) (w : World), listed.size = ops.size →
      (∀ j oj, ops[j]? = some oj → listed.getD j false = true → ∀ e ∈ oj.after, Region.binds .any e = true → listed.getD e.on false = true) → J w →
      flB2 fl ops ch l listed = true → wpFl J pu P ops (fun a' => wpCh J nd (fun a2 w2 => wpAnyJ J fl nd Q P ops fuel (setAll (setAll listed l) ch) a2 w2) P ops ch a' w) l a → wpAnyJ J fl nd Q P ops (l.length + (ch.length + fuel)) listed a w
  | [], listed, a, w, _, _, _, hB, h => by
    simp only [List.length_nil, Nat.zero_add]
    exact wpAnyJ_of_ch2 J fl nd Q fuel ch listed a w (by simpa [flB2] using hB) h
  | i :: l, listed, a, w, hsz, hcl, hJ, hB, h => by
    simp only [flB2, Bool.and_eq_true] at hB
    obtain ⟨⟨⟨hif, hr⟩, hf⟩, hB'⟩ := hB
    obtain ⟨o, v, ho, hst, hrest⟩ := h
    have hr' : i ∈ Region.ready .any ops listed := by simpa using hr
    have hcl' : ∀ k ok, ops[k]? = some ok → (listed.setIfInBounds i true).getD k false = true → ∀ e ∈ ok.after, Region.binds .any e = true → (listed.setIfInBounds i true).getD e.on false = true := fun k ok hk hl e he hb => by
      by_cases hik : i = k
      · subst hik
        obtain ⟨_, oi, hoi, hall⟩ := mem_ready.1 hr'
        have : ok = oi := Option.some.inj (hk.symm.trans hoi)
        subst this
        exact getD_set_true (hall e he hb)
      · rw [getD_set_ne false hik] at hl
        exact getD_set_true (hcl k ok hk hl e he hb)
    rw [show (i :: l).length + (ch.length + fuel) = (l.length + (ch.length + fuel)) + 1 from by simp; omega]
    exact wpAnyJ_first J fl pu nd Q S ho hif _ listed a w hsz hcl (Region.free_spec ho hf) hr' hst (fun _ => hJ)
      (wpAnyJ_of_fl2 S fuel ch l _ _ w (by simpa using hsz) hcl' hJ hB' hrest)
theorem wp_region_tree {id : Nat} {R : Exit → Act → World → Prop} {a : Act} {w : World} {l : List Oper} (fl ch : List Nat) (fuel : Nat) (pu : List Nat) (hm : P.follows .mixedOrders = true) (J : World → Prop)
    (hs : shapeB l.toArray = true) (hn : fl.length + (ch.length + fuel) = l.length) (hB : flB2 fl l.toArray ch fl (Array.replicate l.toArray.size false) = true) (hJ : J w.drew)
    (h : wpFl J pu P l.toArray (fun a' => wpCh J (needB l.toArray fl pu) (fun a2 w2 => wpAnyJ J fl (needB l.toArray fl pu) (R .normal) P l.toArray fuel (setAll (setAll (Array.replicate l.toArray.size false) fl) ch) a2 w2) P l.toArray ch a' w.drew) fl a) : (Code.region id l.toArray true).wp P R a w := by
  refine wp_region_any hm (wpAny_of_J J fl (needB l.toArray fl pu) (R .normal) (fun _ _ h => h) _ _ _ _ ?_)
  have := wpAnyJ_of_fl2 J fl pu (needB l.toArray fl pu) (R .normal) (shape_of hs) fuel ch fl (Array.replicate l.toArray.size false) a w.drew (by simp) (fun j oj _ hl => (by rw [getD_replicate_false] at hl; cases hl)) hJ hB h
  rw [hn] at this
  simpa using this
/-- One operation of the tail, as a plain list. -/
theorem wpOp_list {K : Act → World → Prop} {c : Nat} {a : Act} {w : World} (o : Oper) (ho : ops[c]? = some o) (h : wpList P ops (Exit.then K NoWay) [o] a w) : wpOp P ops NoWay c K a w :=
  wpOp_mono (fun _ _ h' => h'.2) (show wpOp P ops NoWay c (fun a' w' => ((fun _ : Nat => false) c = true → True) ∧ wpCh (fun _ => True) (fun _ => false) K P ops [] a' w') a w from wpCh_rest (fun _ => True) (fun _ => false) K [c] [o] a w (by simp [ho]) rfl h)
/-- The tail's next operation: whichever is ready. -/
theorem wpAnyJ_step {fuel : Nat} {listed : Array Bool} {a : Act} {w : World} (rs : List Nat) (hr : Region.ready .any ops listed = rs) (hne : rs.isEmpty = false) (hfl : rs.all (fun i => !fl.contains i && !nd i) = true)
    (h : ∀ i ∈ rs, wpOp P ops NoWay i (fun a' w' => wpAnyJ J fl nd Q P ops fuel (listed.setIfInBounds i true) a' w') a w) : wpAnyJ J fl nd Q P ops (fuel + 1) listed a w := by
  refine ⟨fun h0 => ?_, fun i hi => ?_⟩
  · rw [hr] at h0; rw [h0] at hne; cases hne
  · rw [hr] at hi
    have hq := List.all_eq_true.1 hfl i hi
    simp only [Bool.and_eq_true, Bool.not_eq_true'] at hq
    refine wpOp_mono (fun a' w' h' => ⟨?_, h'⟩) (h i hi)
    rw [hq.1, if_neg (by simp)]
    intro hn
    rw [hq.2] at hn; cases hn
theorem wpAnyJ_end {listed : Array Bool} {a : Act} {w : World} (hr : Region.ready .any ops listed = []) (h : Q a w) : wpAnyJ J fl nd Q P ops 0 listed a w := ⟨hr, h⟩
end
end Go.Proofs.Qxb6500749a
