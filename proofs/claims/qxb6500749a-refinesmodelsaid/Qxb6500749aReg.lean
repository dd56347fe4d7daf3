import Derived.StillTail
import Derived.KernelRfl
namespace Go.Proofs.Qxb6500749a
open Go

/-! ### A region that draws its order: some operations FLOAT (they yield one value in every world of a kind J, and leave the world alone), the others stand in ONE order. Then one walk serves: the floating ones first, then the others. -/

/-- The transitive predecessors of each operation, as bits. -/
def befStep (acc : Array Nat) (o : Oper) : Nat := o.after.toList.foldl (fun s e => if Region.binds .any e then s ||| 2 ^ e.on ||| acc.getD e.on 0 else s) 0
def befs (ops : List Oper) : Array Nat := ops.foldl (fun acc o => acc.push (befStep acc o)) #[]

theorem foldl_bits (acc : Array Nat) (i : Nat) : ∀ (l : List Edge) (s : Nat), (l.foldl (fun s e => if Region.binds .any e then s ||| 2 ^ e.on ||| acc.getD e.on 0 else s) s).testBit i = true →
    s.testBit i = true ∨ ∃ e ∈ l, Region.binds .any e = true ∧ (e.on = i ∨ (acc.getD e.on 0).testBit i = true)
  | [], _, h => .inl h
  | e :: l, s, h => by
    rcases foldl_bits acc i l _ h with h1 | ⟨e', he, h2⟩
    · simp only [] at h1
      by_cases hb : Region.binds .any e = true
      · rw [if_pos hb, Nat.testBit_or, Nat.testBit_or, Nat.testBit_two_pow] at h1
        simp only [Bool.or_eq_true, decide_eq_true_eq] at h1
        rcases h1 with (h1 | h1) | h1
        · exact .inl h1
        · exact .inr ⟨e, by simp, hb, .inl h1⟩
        · exact .inr ⟨e, by simp, hb, .inr h1⟩
      · rw [if_neg hb] at h1; exact .inl h1
    · exact .inr ⟨e', List.mem_cons_of_mem _ he, h2⟩
theorem befs_size (ops : List Oper) : (befs ops).size = ops.length := by
  unfold befs
  have : ∀ (l : List Oper) (acc : Array Nat), (l.foldl (fun acc o => acc.push (befStep acc o)) acc).size = acc.size + l.length := by
    intro l
    induction l with
    | nil => intro acc; rfl
    | cons o l ih => intro acc; rw [List.foldl_cons, ih]; simp; omega
  simpa using this ops #[]
theorem befs_snoc (l : List Oper) (o : Oper) : befs (l ++ [o]) = (befs l).push (befStep (befs l) o) := by simp [befs, List.foldl_append]
theorem befs_append (r : List Oper) : ∀ (l : List Oper) (j : Nat), j < l.length → (befs (l ++ r)).getD j 0 = (befs l).getD j 0 := by
  induction r with
  | nil => intro l j _; simp
  | cons o r ih =>
    intro l j hj
    have h1 := ih (l ++ [o]) j (by simp; omega)
    rw [List.append_assoc] at h1
    rw [show l ++ o :: r = l ++ ([o] ++ r) from rfl, h1, befs_snoc]
    have : j < (befs l).size := by rw [befs_size]; exact hj
    simp only [Array.getD_eq_getD_getElem?]
    rw [Array.getElem?_push_lt this, Array.getElem?_eq_getElem this]

/-- In a set that is closed under predecessors, whatever an operation waits for, step by step, is in it once its direct ones are. -/
theorem befs_listed (ops : List Oper) (listed : Nat → Bool)
    (closed : ∀ j oj, ops[j]? = some oj → listed j = true → ∀ e ∈ oj.after, Region.binds .any e = true → listed e.on = true)
    (low : ∀ j oj, ops[j]? = some oj → ∀ e ∈ oj.after, Region.binds .any e = true → e.on < j) :
    ∀ j oj, ops[j]? = some oj → (∀ e ∈ oj.after, Region.binds .any e = true → listed e.on = true) → ∀ i, ((befs ops).getD j 0).testBit i = true → listed i = true := by
  intro j
  induction j using Nat.strongRecOn with
  | _ j ih =>
    intro oj hoj hdir i hi
    have hjl : j < ops.length := (List.getElem?_eq_some_iff.1 hoj).1
    have hsplit : ops = ops.take j ++ oj :: ops.drop (j + 1) := by
      have h1 := List.take_append_drop j ops
      have h2 : ops.drop j = oj :: ops.drop (j + 1) := by
        rw [List.drop_eq_getElem_cons hjl]
        have := (List.getElem?_eq_some_iff.1 hoj).2
        rw [this]
      rw [← h2]; exact h1.symm
    have hlt : (ops.take j).length = j := by simp; omega
    have hbj : (befs ops).getD j 0 = befStep (befs (ops.take j)) oj := by
      have h1 : (befs ops).getD j 0 = (befs (ops.take j ++ [oj])).getD j 0 := by
        have h2 : ops = (ops.take j ++ [oj]) ++ ops.drop (j + 1) := by rw [List.append_assoc]; exact hsplit
        have h3 := befs_append (ops.drop (j + 1)) (ops.take j ++ [oj]) j (by simp; omega)
        rw [← h2] at h3
        exact h3
      rw [h1, befs_snoc]
      have hs : (befs (ops.take j)).size = j := by rw [befs_size, hlt]
      simp only [Array.getD_eq_getD_getElem?]
      rw [Array.getElem?_push, if_pos hs.symm]
      rfl
    rw [hbj] at hi
    rcases foldl_bits _ i _ _ hi with h0 | ⟨e, he, hb, h1⟩
    · simp at h0
    · have hem : e ∈ oj.after := by simpa using he
      have hel := hdir e hem hb
      have hlow := low j oj hoj e hem hb
      rcases h1 with rfl | h1
      · exact hel
      · have hoe : ∃ oe, ops[e.on]? = some oe := ⟨_, List.getElem?_eq_getElem (by omega)⟩
        obtain ⟨oe, hoe⟩ := hoe
        have h2 : (befs (ops.take j)).getD e.on 0 = (befs ops).getD e.on 0 := by
          have h3 := befs_append (oj :: ops.drop (j + 1)) (ops.take j) e.on (by omega)
          rw [← hsplit] at h3
          exact h3.symm
        rw [h2] at h1
        exact ih e.on hlow oe hoe (fun e' he' hb' => closed e.on oe hoe hel e' he' hb') i h1

section
variable {P : Program} {ops : Array Oper} (J : World → Prop) (fl pu : List Nat) (nd : Nat → Bool) (Q : Act → World → Prop)

/-- No way out but the next operation. -/
def NoWay : Exit → Act → World → Prop := fun _ _ _ => False

/-- In whatever order; behind an operation that does not float J holds where it may be wanted yet. -/
def wpAnyJ (P : Program) (ops : Array Oper) : Nat → Array Bool → Act → World → Prop
  | 0, listed, a, w => Region.ready .any ops listed = [] ∧ Q a w
  | fuel + 1, listed, a, w =>
    (Region.ready .any ops listed = [] → Q a w) ∧
    ∀ i ∈ Region.ready .any ops listed, wpOp P ops NoWay i (fun a' w' => (if fl.contains i then w' = w else (nd i = true → J w')) ∧ wpAnyJ P ops fuel (listed.setIfInBounds i true) a' w') a w

theorem noLets : ¬ LetsOut NoWay := fun ⟨_, _, h⟩ => h
theorem wpOp_noway {i : Nat} {K : Act → World → Prop} {R : Exit → Act → World → Prop} {a : Act} {w : World} (h : wpOp P ops NoWay i K a w) : wpOp P ops R i K a w := by
  unfold wpOp at *
  split at h
  · exact h
  · rename_i o ho
    split at h
    · rename_i hw
      rw [if_pos hw]
      rcases h with h | ⟨_, h⟩
      · refine .inl ?_
        unfold Oper.wp at *
        generalize (execOp a.eval o).run P w = r at *
        cases r with
        | ok n w' =>
          cases n <;> simp only [Oper.upon] at h ⊢ <;> first
            | exact h
            | exact Calls.mono h (fun e w'' he => by cases e <;> first | exact he | exact (he : False).elim | exact absurd he noLets)
        | halt x w' => cases x <;> simp only [Oper.upon] at h; exact (h : False).elim
      · exact absurd h noLets
    · rename_i hw; rw [if_neg hw]; exact h
theorem wpAny_of_J {R : Exit → Act → World → Prop} (hR : ∀ a w, Q a w → R .normal a w) : ∀ (fuel : Nat) (listed : Array Bool) (a : Act) (w : World), wpAnyJ J fl nd Q P ops fuel listed a w → wpAny P .any ops R fuel listed a w
  | 0, _, _, _, h => ⟨h.1, hR _ _ h.2⟩
  | fuel + 1, _, _, _, h => ⟨fun h0 => hR _ _ (h.1 h0), fun i hi => wpOp_noway (wpOp_mono (fun a' w' h' => wpAny_of_J hR fuel _ a' w' h'.2) (h.2 i hi))⟩

/-- The operation yields v in every world of the kind J (a pure one: in every world), and leaves the world alone. -/
def StC (P : Program) (ops : Array Oper) (i : Nat) (o : Oper) (v : Value) (a : Act) : Prop := ∀ w, (pu.contains i = false → J w) → YieldsAt P ops w o v a
theorem StC.of_same {i : Nat} {o : Oper} {v : Value} {a a' : Act} (h : StC J pu P ops i o v a) (he : execOp a'.eval o = execOp a.eval o)
    (hw : Region.wanted o (yielded ops a'.tmps) = Region.wanted o (yielded ops a.tmps)) : StC J pu P ops i o v a' := fun w hj => (h w hj).of_same he hw

theorem wpOp_of_yields {i : Nat} {o : Oper} {v : Value} {a : Act} {w : World} {K : Act → World → Prop} {R : Exit → Act → World → Prop} (hi : ops[i]? = some o) (hy : YieldsAt P ops w o v a) (h : K (a.put o.dst v) w) : wpOp P ops R i K a w := by
  unfold wpOp
  simp only [hi]
  rcases hy with ⟨hw, hv | ⟨hv, rfl⟩ | ⟨f, args, hv, hc⟩⟩ | ⟨hw, rfl⟩
  · simp only [hw, if_true, Oper.wp, hv, Oper.upon]; exact .inl h
  · simp only [hw, if_true, Oper.wp, hv, Oper.upon]; exact .inl h
  · simp only [hw, if_true, Oper.wp, hv, Oper.upon]
    exact .inl (hc.mono fun e w'' ⟨he, hw''⟩ => by subst he; subst hw''; exact h)
  · simp only [hw, Bool.false_eq_true, if_false]; exact h

theorem wpOp_putJ {i j : Nat} {oi oj : Oper} {v : Value} (hj : ops[j]? = some oj) (hap : oi.apart ops oj = true)
    (hsi : ∀ cs b, oi.op ≠ .select cs b) (hsj : ∀ cs b, oj.op ≠ .select cs b) {K : Act → World → Prop} {a : Act} {w : World}
    (hy : StC J pu P ops i oi v a) (h : wpOp P ops NoWay j K (a.put oi.dst v) w) :
    wpOp P ops NoWay j (fun a' w' => StC J pu P ops i oi v a' ∧ K (a'.put oi.dst v) w') a w := by
  obtain ⟨h1, h2, h3⟩ := Oper.apart_spec hap
  have keep : ∀ (a : Act), StC J pu P ops i oi v a → ∀ u, StC J pu P ops i oi v (a.put oj.dst u) := fun a hy u =>
    hy.of_same J pu (execOp_put oi hsi a oj.dst u h3) (wanted_put oi a oj.dst u h3)
  have keepD : ∀ d, StC J pu P ops i oi v { a with defers := d :: a.defers } := fun d => hy.of_same J pu rfl rfl
  unfold wpOp at *
  simp only [hj] at *
  rw [wanted_put oj a oi.dst v h1] at h
  split
  · rename_i hw
    simp only [hw, if_true] at h
    rcases h with h | ⟨_, hlets⟩
    case inr => exact absurd hlets noLets
    refine .inl ?_
    unfold Oper.wp at *
    rw [execOp_put oj hsj a oi.dst v h1] at h
    generalize (execOp a.eval oj).run P w = r at *
    cases r with
    | ok n w' =>
      cases n <;> simp only [Oper.upon] at h ⊢
      case value u => exact ⟨keep a hy u, by rw [← Act.put_comm a v u h2]; exact h⟩
      case skip => exact ⟨keep a hy _, by rw [← Act.put_comm a v undef h2]; exact h⟩
      case defer d =>
        refine ⟨keep _ (keepD d) _, ?_⟩
        rw [← Act.put_comm _ v undef h2, ← Act.put_defers]
        exact h
      case enter f args =>
        refine Calls.mono h fun e w'' he => ?_
        cases e with
        | returned u => exact ⟨keep a hy u, by rw [← Act.put_comm a v u h2]; exact he⟩
        | panicked c => exact (he : False).elim
        | outgrown => exact absurd he noLets
      case row row args => exact Rows.mono h fun u w'' he => ⟨keep a hy u, by rw [← Act.put_comm a v u h2]; exact he⟩
    | halt x w' =>
      cases x <;> simp only [Oper.upon] at h ⊢
      case panic u => exact (h : False).elim
  · rename_i hw
    simp only [hw] at h
    exact ⟨keep a hy _, by rw [← Act.put_comm a v undef h2]; exact h⟩

/-- What the shape of the region must be. -/
structure Shape (ops : Array Oper) (fl pu : List Nat) (nd : Nat → Bool) : Prop where
  sel : ∀ (j : Nat) (o : Oper) cs b, ops[j]? = some o → o.op ≠ .select cs b
  low : ∀ j oj, ops[j]? = some oj → ∀ e ∈ oj.after, Region.binds .any e = true → e.on < j
  need : ∀ j i, j < ops.size → fl.contains j = false → fl.contains i = true → pu.contains i = false → ((befs ops.toList).getD j 0).testBit i = false → nd j = true

theorem wpAnyJ_first {i : Nat} {oi : Oper} {v : Value} (S : Shape ops fl pu nd) (hi : ops[i]? = some oi) (hif : fl.contains i = true) :
    ∀ (fuel : Nat) (listed : Array Bool) (a : Act) (w : World),
      listed.size = ops.size →
      (∀ j oj, ops[j]? = some oj → listed.getD j false = true → ∀ e ∈ oj.after, Region.binds .any e = true → listed.getD e.on false = true) →
      (∀ j oj, ops[j]? = some oj → j ≠ i → listed.getD j true = false → (∀ e ∈ oj.after, Region.binds .any e = true → e.on ≠ i) → oi.apart ops oj = true) →
      i ∈ Region.ready .any ops listed → StC J pu P ops i oi v a → (pu.contains i = false → J w) →
      wpAnyJ J fl nd Q P ops fuel (listed.setIfInBounds i true) (a.put oi.dst v) w → wpAnyJ J fl nd Q P ops (fuel + 1) listed a w := by
  intro fuel
  induction fuel with
  | zero =>
    intro listed a w hsz hcl _ hr hy hJ H
    refine ⟨fun h => (by rw [h] at hr; cases hr), fun j hj => ?_⟩
    by_cases hji : j = i
    · subst hji
      exact wpOp_of_yields hi (hy w hJ) ⟨by rw [if_pos hif], H⟩
    · have := ready_mono hj hji
      rw [H.1] at this
      cases this
  | succ fuel ih =>
    intro listed a w hsz hcl hfree hr hy hJ H
    refine ⟨fun h => (by rw [h] at hr; cases hr), fun j hj => ?_⟩
    by_cases hji : j = i
    · subst hji
      exact wpOp_of_yields hi (hy w hJ) ⟨by rw [if_pos hif], H⟩
    · have h1 := H.2 j (ready_mono hj hji)
      obtain ⟨hjun, oj, hoj, hall⟩ := mem_ready.1 hj
      have hiun := (mem_ready.1 hr).1
      have hnot : ∀ e ∈ oj.after, Region.binds .any e = true → e.on ≠ i := fun e he hb heq => by
        have h1 := hall e he hb
        rw [heq, getD_both hiun] at h1
        cases h1
      have h2 := wpOp_putJ J pu hoj (hfree j oj hoj hji hjun hnot) (fun cs b => S.sel i oi cs b hi) (fun cs b => S.sel j oj cs b hoj) hy h1
      have hjs : j < ops.size := (Array.getElem?_eq_some_iff.1 hoj).1
      have hfree' : ∀ k ok, ops[k]? = some ok → k ≠ i → (listed.setIfInBounds j true).getD k true = false →
          (∀ e ∈ ok.after, Region.binds .any e = true → e.on ≠ i) → oi.apart ops ok = true := fun k ok hk hki hun hno => by
        refine hfree k ok hk hki ?_ hno
        by_cases hjk : j = k
        · subst hjk; exact hjun
        · rw [getD_set_ne true hjk] at hun; exact hun
      have hcl' : ∀ k ok, ops[k]? = some ok → (listed.setIfInBounds j true).getD k false = true → ∀ e ∈ ok.after, Region.binds .any e = true → (listed.setIfInBounds j true).getD e.on false = true := fun k ok hk hl e he hb => by
        by_cases hjk : j = k
        · subst hjk
          have : ok = oj := Option.some.inj (hk.symm.trans hoj)
          subst this
          exact getD_set_true (hall e he hb)
        · rw [getD_set_ne false hjk] at hl
          exact getD_set_true (hcl k ok hk hl e he hb)
      refine wpOp_mono (fun a' w' h3 => ?_) h2
      obtain ⟨hy', hk, hrest⟩ := h3
      have hw' : if fl.contains j = true then w' = w else (nd j = true → J w') := hk
      refine ⟨hw', ih (listed.setIfInBounds j true) a' w' (by simpa using hsz) hcl' hfree' (ready_mono hr (Ne.symm hji)) hy' (fun hpu => ?_) ?_⟩
      · by_cases hjf : fl.contains j = true
        · rw [if_pos hjf] at hw'
          rw [hw']; exact hJ hpu
        · rw [if_neg hjf] at hw'
          refine hw' (S.need j i hjs (by simpa using hjf) hif hpu ?_)
          cases hb : ((befs ops.toList).getD j 0).testBit i with
          | false => rfl
          | true =>
            have := befs_listed ops.toList (fun k => listed.getD k false) (fun k ok hk => hcl k ok (by simpa using hk)) (fun k ok hk => S.low k ok (by simpa using hk)) j oj (by simpa using hoj) hall i hb
            simp only [getD_both hiun] at this
            cases this
      · rw [Array.setIfInBounds_comm _ _ hji]
        exact hrest

/-- The operations that do not float, one behind the other. -/
def wpCh (P : Program) (ops : Array Oper) : List Nat → Act → World → Prop
  | [], a, w => Q a w
  | c :: cs, a, w => wpOp P ops NoWay c (fun a' w' => (nd c = true → J w') ∧ wpCh P ops cs a' w') a w
/-- The floating ones. -/
def wpFl (P : Program) (ops : Array Oper) (K : Act → Prop) : List Nat → Act → Prop
  | [], a => K a
  | i :: l, a => ∃ o v, ops[i]? = some o ∧ StC J pu P ops i o v a ∧ wpFl P ops K l (a.put o.dst v)

def chB (ops : Array Oper) : List Nat → Array Bool → Bool
  | [], listed => (Region.ready .any ops listed).isEmpty
  | c :: cs, listed => decide (Region.ready .any ops listed = [c]) && !fl.contains c && chB ops cs (listed.setIfInBounds c true)
def flB (ops : Array Oper) (ch : List Nat) : List Nat → Array Bool → Bool
  | [], listed => chB fl ops ch listed
  | i :: l, listed => fl.contains i && (Region.ready .any ops listed).contains i && Region.free .any ops listed i && flB ops ch l (listed.setIfInBounds i true)
def shapeB (ops : Array Oper) : Bool :=
  Region.noSelect ops && ((List.range ops.size).all fun j => match ops[j]? with
    | some oj => oj.after.all fun e => !Region.binds .any e || decide (e.on < j)
    | none => true)
/-- Whether J may be wanted behind operation j. -/
def needB (ops : Array Oper) (fl pu : List Nat) : Nat → Bool :=
  let b := befs ops.toList
  fun j => fl.any fun i => !pu.contains i && !((b.getD j 0).testBit i)

theorem shape_of {ops : Array Oper} {fl pu : List Nat} (h : shapeB ops = true) : Shape ops fl pu (needB ops fl pu) where
  sel := fun j o cs b ho => by
    simp only [shapeB, Bool.and_eq_true] at h
    exact Region.noSelect_spec h.1 j o cs b ho
  low := fun j oj hj e he hb => by
    simp only [shapeB, Bool.and_eq_true, List.all_eq_true, List.mem_range] at h
    have h1 := h.2 j (Array.getElem?_eq_some_iff.1 hj).1
    simp only [hj, Array.all_eq_true_iff_forall_mem] at h1
    have h2 := h1 e he
    simp only [hb, Bool.not_true, Bool.false_or, decide_eq_true_eq] at h2
    exact h2
  need := fun j i _ _ hi hp hb => by
    simp only [needB, List.any_eq_true]
    exact ⟨i, by simpa using hi, by simp only [hp, hb]; rfl⟩

theorem wpAnyJ_of_ch : ∀ (ch : List Nat) (listed : Array Bool) (a : Act) (w : World), chB fl ops ch listed = true → wpCh J nd Q P ops ch a w → wpAnyJ J fl nd Q P ops ch.length listed a w
  | [], listed, a, w, hB, h => ⟨by simpa [chB] using hB, h⟩
  | c :: ch, listed, a, w, hB, h => by
    simp only [chB, Bool.and_eq_true, decide_eq_true_eq, Bool.not_eq_true'] at hB
    obtain ⟨⟨hr, hc⟩, hB'⟩ := hB
    refine ⟨fun h1 => (by rw [hr] at h1; cases h1), fun i hi => ?_⟩
    rw [hr] at hi
    have hic : i = c := by simpa using hi
    subst hic
    refine wpOp_mono (fun a' w' h' => ⟨?_, wpAnyJ_of_ch ch _ a' w' hB' h'.2⟩) h
    rw [if_neg (by rw [hc]; simp)]
    exact h'.1
theorem wpAnyJ_of_fl (S : Shape ops fl pu nd) (ch : List Nat) : ∀ (l : List Nat) (listed : Array Bool) (a : Act) (w : World), listed.size = ops.size →
      (∀ j oj, ops[j]? = some oj → listed.getD j false = true → ∀ e ∈ oj.after, Region.binds .any e = true → listed.getD e.on false = true) → J w →
      flB fl ops ch l listed = true → wpFl J pu P ops (fun a' => wpCh J nd Q P ops ch a' w) l a → wpAnyJ J fl nd Q P ops (l.length + ch.length) listed a w
  | [], listed, a, w, _, _, _, hB, h => by
    simp only [List.length_nil, Nat.zero_add]
    exact wpAnyJ_of_ch J fl nd Q ch listed a w (by simpa [flB] using hB) h
  | i :: l, listed, a, w, hsz, hcl, hJ, hB, h => by
    simp only [flB, Bool.and_eq_true] at hB
    obtain ⟨⟨⟨hif, hr⟩, hf⟩, hB'⟩ := hB
    obtain ⟨o, v, ho, hst, hrest⟩ := h
    have hr' : i ∈ Region.ready .any ops listed := by simpa using hr
    have hcl' : ∀ k ok, ops[k]? = some ok → (listed.setIfInBounds i true).getD k false = true → ∀ e ∈ ok.after, Region.binds .any e = true → (listed.setIfInBounds i true).getD e.on false = true := fun k ok hk hl e he hb => by
      by_cases hik : i = k
      · subst hik
        obtain ⟨_, oi, hoi, hall⟩ := mem_ready.1 hr'
        have : ok = oi := Option.some.inj (hk.symm.trans hoi)
        subst this
        exact getD_set_true (hall e he hb)
      · rw [getD_set_ne false hik] at hl
        exact getD_set_true (hcl k ok hk hl e he hb)
    rw [show (i :: l).length + ch.length = (l.length + ch.length) + 1 from by simp; omega]
    exact wpAnyJ_first J fl pu nd Q S ho hif _ listed a w hsz hcl (Region.free_spec ho hf) hr' hst (fun _ => hJ)
      (wpAnyJ_of_fl S ch l _ _ w (by simpa using hsz) hcl' hJ hB' hrest)

/-- ONE WALK FOR A REGION THAT DRAWS: fl: the floating operations, in an order in which they may come; ch: the others; pu: those of fl that ask nothing of the world. -/
theorem wp_region_float {id : Nat} {R : Exit → Act → World → Prop} {a : Act} {w : World} {l : List Oper} (fl ch pu : List Nat) (hm : P.follows .mixedOrders = true) (J : World → Prop)
    (hs : shapeB l.toArray = true) (hn : fl.length + ch.length = l.length) (hB : flB fl l.toArray ch fl (Array.replicate l.toArray.size false) = true) (hJ : J w.drew)
    (h : wpFl J pu P l.toArray (fun a' => wpCh J (needB l.toArray fl pu) (R .normal) P l.toArray ch a' w.drew) fl a) : (Code.region id l.toArray true).wp P R a w := by
  refine wp_region_any hm (wpAny_of_J J fl (needB l.toArray fl pu) (R .normal) (fun _ _ h => h) _ _ _ _ ?_)
  have := wpAnyJ_of_fl J fl pu (needB l.toArray fl pu) (R .normal) (shape_of hs) ch fl (Array.replicate l.toArray.size false) a w.drew (by simp) (fun j oj _ hl => (by rw [getD_replicate_false] at hl; cases hl)) hJ hB h
  rw [hn] at this
  simpa using this

/-! ### The steps of the walk -/
theorem wpFl_nil {K : Act → Prop} {a : Act} (h : K a) : wpFl J pu P ops K [] a := h
/-- A floating operation without a guard. -/
theorem wpFl_op {K : Act → Prop} {i : Nat} {l : List Nat} {a : Act} (o : Oper) (v : Value) (ho : ops[i]? = some o) (hg : o.guard = none)
    (h : ∀ w, (pu.contains i = false → J w) → (execOp a.eval o).run P w = .ok (.value v) w) (k : wpFl J pu P ops K l (a.put o.dst v)) : wpFl J pu P ops K (i :: l) a :=
  ⟨o, v, ho, fun w hj => .inl ⟨by simp [Region.wanted, hg], .inl (h w hj)⟩, k⟩
/-- One whose guard says yes, or no. -/
theorem wpFl_yes {K : Act → Prop} {i : Nat} {l : List Nat} {a : Act} (o : Oper) (v : Value) (ho : ops[i]? = some o) (hg : Region.wanted o (yielded ops a.tmps) = true)
    (h : ∀ w, (pu.contains i = false → J w) → (execOp a.eval o).run P w = .ok (.value v) w) (k : wpFl J pu P ops K l (a.put o.dst v)) : wpFl J pu P ops K (i :: l) a :=
  ⟨o, v, ho, fun w hj => .inl ⟨hg, .inl (h w hj)⟩, k⟩
theorem wpFl_no {K : Act → Prop} {i : Nat} {l : List Nat} {a : Act} (o : Oper) (ho : ops[i]? = some o) (hg : Region.wanted o (yielded ops a.tmps) = false)
    (k : wpFl J pu P ops K l (a.put o.dst undef)) : wpFl J pu P ops K (i :: l) a :=
  ⟨o, undef, ho, fun _ _ => .inr ⟨hg, rfl⟩, k⟩
/-- A call that reads, and leaves the world alone. -/
theorem wpFl_call {K : Act → Prop} {i : Nat} {l : List Nat} {a : Act} (o : Oper) (v : Value) (f : FuncId) (args : Array Value) (ho : ops[i]? = some o) (hg : o.guard = none)
    (h : ∀ w, (execOp a.eval o).run P w = .ok (.enter f args) w) (hc : ∀ w, (pu.contains i = false → J w) → Calls P f args w fun e w' => e = .returned v ∧ w' = w) (k : wpFl J pu P ops K l (a.put o.dst v)) : wpFl J pu P ops K (i :: l) a :=
  ⟨o, v, ho, fun w hj => .inl ⟨by simp [Region.wanted, hg], .inr (.inr ⟨f, args, h w, hc w hj⟩)⟩, k⟩
/-- The rest of the others, where J is no longer wanted: as a plain list. -/
theorem wpCh_rest : ∀ (cs : List Nat) (l : List Oper) (a : Act) (w : World), cs.map (fun c => ops[c]?) = l.map some → cs.all (fun c => !nd c) = true → wpList P ops (Exit.then Q NoWay) l a w → wpCh J nd Q P ops cs a w
  | [], [], _, _, _, _, h => h
  | [], _ :: _, _, _, hl, _, _ => by simp at hl
  | _ :: _, [], _, _, hl, _, _ => by simp at hl
  | c :: cs, o :: l, a, w, hl, hn, h => by
    simp only [List.map_cons, List.cons.injEq] at hl
    simp only [List.all_cons, Bool.and_eq_true, Bool.not_eq_true'] at hn
    have hw : wpOp P ops (Exit.then Q NoWay) c (wpList P ops (Exit.then Q NoWay) l) a w := by unfold wpOp; simp only [hl.1]; exact h
    have hq : wpOp P ops NoWay c (wpList P ops (Exit.then Q NoWay) l) a w := by
      unfold wpOp at *
      simp only [hl.1] at *
      split at hw
      · rename_i hwt
        rw [if_pos hwt]
        rcases hw with hw | ⟨_, ⟨_, _, hh⟩⟩
        · refine .inl ?_
          unfold Oper.wp at *
          generalize (execOp a.eval o).run P w = r at *
          cases r with
          | ok n w' =>
            cases n <;> simp only [Oper.upon] at hw ⊢ <;> first
              | exact hw
              | exact Calls.mono hw (fun e w'' he => by cases e <;> first | exact he | exact (he : False).elim | (obtain ⟨_, _, hh⟩ := he; exact (hh : False).elim))
          | halt x w' => cases x <;> simp only [Oper.upon] at hw ⊢ <;> exact (hw : False).elim
        · exact (hh : False).elim
      · rename_i hwt; rw [if_neg hwt]; exact hw
    exact wpOp_mono (fun a' w' h' => ⟨fun hh => (by rw [hn.1] at hh; cases hh), wpCh_rest cs l a' w' hl.2 hn.2 h'⟩) hq
/-- One of the others, behind which J is wanted yet. -/
theorem wpCh_one {c : Nat} {cs : List Nat} {a : Act} {w : World} (o : Oper) (ho : ops[c]? = some o) (h : wpList P ops (Exit.then (fun a' w' => J w' ∧ wpCh J nd Q P ops cs a' w') NoWay) [o] a w) : wpCh J nd Q P ops (c :: cs) a w := by
  have h1 : wpCh (fun _ => True) (fun _ => false) (fun a' w' => J w' ∧ wpCh J nd Q P ops cs a' w') P ops [c] a w := wpCh_rest (fun _ => True) (fun _ => false) _ [c] [o] a w (by simp [ho]) rfl h
  exact wpOp_mono (fun a' w' h' => ⟨fun _ => h'.2.1, h'.2.2⟩) h1
end
end Go.Proofs.Qxb6500749a
