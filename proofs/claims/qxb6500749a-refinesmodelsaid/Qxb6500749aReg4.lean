import Derived.Test.Qxb6500749aReg3
namespace Go.Proofs.Qxb6500749a
open Go
section
variable {P : Program} {ops : Array Oper}
/-! ### A region that draws, stage by stage -/
def wpA0 (Q : Act → World → Prop) (P : Program) (ops : Array Oper) : Nat → Array Bool → Act → World → Prop := wpAnyJ (fun _ => True) [] (fun _ => false) Q P ops
theorem wpA0_of_J {J : World → Prop} {fl : List Nat} {nd : Nat → Bool} {Q : Act → World → Prop} : ∀ (fuel : Nat) (listed : Array Bool) (a : Act) (w : World), wpAnyJ J fl nd Q P ops fuel listed a w → wpA0 Q P ops fuel listed a w
  | 0, _, _, _, h => h
  | fuel + 1, _, _, _, h => ⟨h.1, fun i hi => wpOp_mono (fun a' w' h' => ⟨by simp, wpA0_of_J fuel _ a' w' h'.2⟩) (h.2 i hi)⟩
def sideB (ops : Array Oper) (fl : List Nat) (nd : Nat → Bool) (listed : Array Bool) : Bool := (List.range ops.size).all fun i => listed.getD i false || (!fl.contains i && !nd i)
theorem side_at {fl : List Nat} {nd : Nat → Bool} {listed : Array Bool} (h : sideB ops fl nd listed = true) (hsz : listed.size = ops.size) {i : Nat} (hi : i ∈ Region.ready .any ops listed) : fl.contains i = false ∧ nd i = false := by
  obtain ⟨h1, oi, hoi, _⟩ := mem_ready.1 hi
  have hlt : i < ops.size := (Array.getElem?_eq_some_iff.1 hoi).1
  have h2 := List.all_eq_true.1 h i (List.mem_range.2 hlt)
  have h3 : listed.getD i false = false := by
    have e : listed.getD i false = listed[i]'(by omega) := by simp [Array.getD, hsz, hlt]
    have e2 : listed.getD i true = listed[i]'(by omega) := by simp [Array.getD, hsz, hlt]
    rw [e, ← e2]; exact h1
  rw [h3] at h2
  simpa using h2
theorem side_set {fl : List Nat} {nd : Nat → Bool} {listed : Array Bool} (h : sideB ops fl nd listed = true) (hsz : listed.size = ops.size) (i : Nat) : sideB ops fl nd (listed.setIfInBounds i true) = true := by
  unfold sideB at h ⊢
  rw [List.all_eq_true] at h ⊢
  intro k hk
  have h1 := h k hk
  have hlt : k < ops.size := List.mem_range.1 hk
  by_cases e : i = k
  · subst e
    have : (listed.setIfInBounds i true).getD i false = true := by simp [Array.getD, hsz, hlt]
    rw [this]; rfl
  · have : (listed.setIfInBounds i true).getD k false = listed.getD k false := by simp [Array.getD, e, hsz, hlt]
    rw [this]; exact h1
theorem wpAnyJ_of_A0 {J : World → Prop} {fl : List Nat} {nd : Nat → Bool} {Q : Act → World → Prop} : ∀ (fuel : Nat) (listed : Array Bool) (a : Act) (w : World), listed.size = ops.size → sideB ops fl nd listed = true → wpA0 Q P ops fuel listed a w → wpAnyJ J fl nd Q P ops fuel listed a w
  | 0, _, _, _, _, _, h => h
  | fuel + 1, listed, _, _, hsz, hs, h => ⟨h.1, fun i hi => by
      obtain ⟨s1, s2⟩ := side_at hs hsz hi
      refine wpOp_mono (fun a' w' h' => ⟨?_, wpAnyJ_of_A0 fuel _ a' w' (by simpa using hsz) (side_set hs hsz i) h'.2⟩) (h.2 i hi)
      rw [s1, if_neg (by simp), s2]
      simp⟩
theorem wpCh_mono {J : World → Prop} {nd : Nat → Bool} {K K' : Act → World → Prop} (hk : ∀ a w, K a w → K' a w) : ∀ (ch : List Nat) (a : Act) (w : World), wpCh J nd K P ops ch a w → wpCh J nd K' P ops ch a w
  | [], _, _, h => hk _ _ h
  | _ :: ch, _, _, h => wpOp_mono (fun a' w' h' => ⟨h'.1, wpCh_mono hk ch a' w' h'.2⟩) h
theorem wpFl_mono {J : World → Prop} {pu : List Nat} {K K' : Act → Prop} (hk : ∀ a, K a → K' a) : ∀ (l : List Nat) (a : Act), wpFl J pu P ops K l a → wpFl J pu P ops K' l a
  | [], _, h => hk _ h
  | _ :: l, _, ⟨o, v, h1, h2, h3⟩ => ⟨o, v, h1, h2, wpFl_mono hk l _ h3⟩
/-- The region, stage by stage. -/
theorem wp_region_stages {id : Nat} {R : Exit → Act → World → Prop} {a : Act} {w : World} {l : List Oper} (hm : P.follows .mixedOrders = true) (n : Nat) (hn : n = l.length)
    (h : wpA0 (R .normal) P l.toArray n (Array.replicate l.toArray.size false) a w.drew) : (Code.region id l.toArray true).wp P R a w := by
  refine wp_region_any hm (wpAny_of_J (fun _ => True) [] (fun _ => false) (R .normal) (fun _ _ h => h) _ _ _ _ ?_)
  subst hn
  unfold wpA0 at h
  simpa using h
theorem wpA0_ch {Q : Act → World → Prop} (ch : List Nat) (fuel : Nat) {n : Nat} {listed : Array Bool} {a : Act} {w : World} (hn : n = ch.length + fuel) (hB : chB2 [] ops ch listed = true) (h : wpCh (fun _ => True) (fun _ => false) (fun a' w' => wpA0 Q P ops fuel (setAll listed ch) a' w') P ops ch a w) : wpA0 Q P ops n listed a w := by
  subst hn
  exact wpAnyJ_of_ch2 (fun _ => True) [] (fun _ => false) Q fuel ch listed a w hB h
theorem wpA0_fl {Q : Act → World → Prop} (fl ch pu : List Nat) (fuel : Nat) (J : World → Prop) {n : Nat} {listed : Array Bool} {a : Act} {w : World} (hn : n = fl.length + (ch.length + fuel)) (hs : shapeB ops = true) (hsz : listed.size = ops.size) (hcl : clB ops listed = true) (hB : flB2 fl ops ch fl listed = true)
    (hside : sideB ops fl (needB ops fl pu) (setAll (setAll listed fl) ch) = true) (hJ : J w) (h : wpFl J pu P ops (fun a' => wpCh J (needB ops fl pu) (fun a2 w2 => wpA0 Q P ops fuel (setAll (setAll listed fl) ch) a2 w2) P ops ch a' w) fl a) : wpA0 Q P ops n listed a w := by
  subst hn
  refine wpA0_of_J (J := J) (fl := fl) (nd := needB ops fl pu) _ _ _ _ (wpAnyJ_of_fl2 J fl pu (needB ops fl pu) Q (shape_of hs) fuel ch fl listed a w hsz (clB_spec hcl) hJ hB ?_)
  refine wpFl_mono (fun a' h' => wpCh_mono (fun a2 w2 h2 => ?_) ch a' w h') fl a h
  exact wpAnyJ_of_A0 fuel _ a2 w2 (by rw [setAll_size, setAll_size]; exact hsz) hside h2
theorem wpA0_end {Q : Act → World → Prop} {listed : Array Bool} {a : Act} {w : World} (hr : Region.ready .any ops listed = []) (h : Q a w) : wpA0 Q P ops 0 listed a w := ⟨hr, h⟩
end
end Go.Proofs.Qxb6500749a
