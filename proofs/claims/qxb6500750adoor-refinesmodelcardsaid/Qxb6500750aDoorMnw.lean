import Derived.Test.Qxb6500750aDoorMpl
import Derived.Test.Qxb6500750aDoorMcs
namespace Go.Proofs.Qxb6500750aDoor
open Go.RowKit
attribute [local go_sem] put_size put_cell_same put_cell_ne put_frozen_same put_frozen_ne put_setCell_same put_setCell_ne put_drew
attribute [local go_sem] drewN_setCell drewN_alloc drewN_put upd_same upd_upd
/-! ### The machine in its first state -/
def ma0 (b : Nat) : MA := ⟨fun _ => .slice none 0 0, fun _ => 0, fun _ => false, fun _ => false, fun t => ⟨b + t, .slice none 0 0, .slice none 0 0, .pointer none, 0, 0, 0, 0, false⟩⟩
def encN (f : Nat → Value) : Array Value := row 75 fun i => if 12 ≤ i ∧ (i - 12) % 9 = 0 then f ((i - 12) / 9) else macell (ma0 0) i
theorem ng_get (f : Nat → Value) (t : Nat) (ht : t < 7) : (encN f)[12 + t * 9]? = some (f t) := by
  rw [encN, row_get _ _ _ (by omega), if_pos ⟨by omega, by omega⟩, show (12 + t * 9 - 12) / 9 = t by omega]
theorem ng_set (f : Nat → Value) (t : Nat) (v : Value) : (encN f).setIfInBounds (12 + t * 9) v = encN (upd f t v) := by
  refine row_set _ _ _ _ _ fun i _ => ?_
  by_cases e : i = 12 + t * 9
  · rw [if_pos e, e, if_pos ⟨by omega, by omega⟩, show (12 + t * 9 - 12) / 9 = t by omega, upd_same]
  · rw [if_neg e]
    by_cases h : 12 ≤ i ∧ (i - 12) % 9 = 0
    · rw [if_pos h, if_pos h, upd_ne _ _ _ _ (by omega)]
    · rw [if_neg h, if_neg h]
theorem encN_zero : encN (fun _ => .map none) = Tryd.zeroCells104 := by kernel_rfl
theorem macell_at (c i : Nat) (h : 12 ≤ i) : macell (ma0 c) i = tgcell ((ma0 c).tg ((i - 12) / 9)) ((i - 12) % 9) :=
  (congrArg (macell (ma0 c)) (show i = 12 + (i - 12) / 9 * 9 + (i - 12) % 9 by omega)).trans (macell_t _ _ _ (by omega))
theorem encN_full (b : Nat) (f : Nat → Value) (h : ∀ t, t < 7 → f t = .map (some (b + t))) : encN f = encM (ma0 b) := by
  unfold encN encM
  apply Array.ext_getElem?
  intro i
  by_cases hi : i < 75
  · rw [row_get _ _ _ hi, row_get _ _ _ hi]
    by_cases h12 : 12 ≤ i
    · have ht : (i - 12) / 9 < 7 := by omega
      by_cases h0 : (i - 12) % 9 = 0
      · rw [if_pos ⟨h12, h0⟩, h _ ht]
        rw [macell_at b i h12, h0]; rfl
      · rw [if_neg (fun q => h0 q.2)]
        rw [macell_at _ i h12, macell_at _ i h12]
        obtain h1 | h1 | h1 | h1 | h1 | h1 | h1 | h1 : (i - 12) % 9 = 1 ∨ (i - 12) % 9 = 2 ∨ (i - 12) % 9 = 3 ∨ (i - 12) % 9 = 4 ∨ (i - 12) % 9 = 5 ∨ (i - 12) % 9 = 6 ∨ (i - 12) % 9 = 7 ∨ (i - 12) % 9 = 8 := by omega
        all_goals (rw [h1]; rfl)
    · rw [if_neg (fun q => h12 q.1)]
      unfold macell
      by_cases a1 : i < 3
      · rw [if_pos a1, if_pos a1]; rfl
      rw [if_neg a1, if_neg a1]
      by_cases a2 : i < 6
      · rw [if_pos a2, if_pos a2]; rfl
      rw [if_neg a2, if_neg a2]
      by_cases a3 : i < 9
      · rw [if_pos a3, if_pos a3]; rfl
      rw [if_neg a3, if_neg a3, if_pos (by omega), if_pos (by omega)]; rfl
  · rw [Array.getElem?_eq_none (by simp [row]; omega), Array.getElem?_eq_none (by simp [row]; omega)]
/-- The machine as New lays it, t maps made. -/
structure NI (w : World) (t : Nat) (wr : World) : Prop where
  blk : ∃ f : Nat → Value, Blk wr w.heap.size (encN f) 104 ∧ ∀ τ, τ < t → f τ = .map (some (w.heap.size + 1 + τ))
  map : ∀ τ, τ < t → wr.heap[w.heap.size + 1 + τ]? = some (.map #[] 0)
  size : wr.heap.size = w.heap.size + 1 + t
  old : ∀ k, k < w.heap.size → wr.heap[k]? = w.heap[k]?
  os : wr.os = w.os
  tape : wr.tape = w.tape
  output : wr.output = w.output
theorem NI.next {w w1 : World} {t : Nat} {f : Nat → Value} (h : NI w t (put w1 w.heap.size (encN f) 104)) (hf : ∀ τ, τ < t → f τ = .map (some (w.heap.size + 1 + τ))) :
    NI w (t + 1) ((put w1 w.heap.size (encN (upd f t (.map (some (w.heap.size + 1 + t))))) 104).alloc (.map #[] 0)) := by
  have hs : w1.heap.size = w.heap.size + 1 + t := by have := h.size; rw [put_size] at this; exact this
  have hlt : ∀ k, k < w.heap.size + 1 + t → ((put w1 w.heap.size (encN (upd f t (.map (some (w.heap.size + 1 + t))))) 104).alloc (.map #[] 0)).heap[k]? = (put w1 w.heap.size (encN (upd f t (.map (some (w.heap.size + 1 + t))))) 104).heap[k]? := fun k hk => Below.heap_alloc _ _ k (by rw [put_size]; omega)
  refine ⟨⟨_, (hlt _ (by omega)).trans (Blk.put_same (by omega)), fun τ hτ => ?_⟩, fun τ hτ => ?_, ?_, fun k hk => ?_, h.os, h.tape, h.output⟩
  · by_cases e : τ = t
    · rw [e, upd_same]
    · rw [upd_ne _ _ _ _ e]; exact hf τ (by omega)
  · by_cases e : τ = t
    · subst e
      have := heap_alloc_new (put w1 w.heap.size (encN (upd f τ (.map (some (w.heap.size + 1 + τ))))) 104) (.map #[] 0)
      rw [put_size, hs] at this
      exact this
    · rw [hlt _ (by omega), put_heap_ne _ _ _ _ _ (by omega)]
      have := h.map τ (by omega)
      rw [put_heap_ne _ _ _ _ _ (by omega)] at this
      exact this
  · simp [put_size, hs]; omega
  · rw [hlt _ (by omega), put_heap_ne _ _ _ _ _ (by omega)]
    have := h.old k hk
    rw [put_heap_ne _ _ _ _ _ (by omega)] at this
    exact this
theorem NI.done {own : Nat → Nat} {w wr : World} (h : NI w 7 wr) :
    ∃ own', MR own' wr w.heap.size (ma0 (w.heap.size + 1)) (fun _ _ => 0) ss0 ∧ Ext own own' (fun _ => False) w wr := by
  obtain ⟨f, hB, hf⟩ := h.blk
  rw [encN_full (w.heap.size + 1) f hf] at hB
  obtain ⟨own', ho⟩ : ∃ own' : Nat → Nat, own' = fun k => if k < w.heap.size then own k else if k = w.heap.size then 30 else 60 + (k - (w.heap.size + 1)) := ⟨_, rfl⟩
  have o1 : own' w.heap.size = 30 := by rw [ho]; simp
  have o2 : ∀ t, own' (w.heap.size + 1 + t) = 60 + t := fun t => by
    rw [ho]
    show (if w.heap.size + 1 + t < w.heap.size then own (w.heap.size + 1 + t) else if w.heap.size + 1 + t = w.heap.size then 30 else 60 + (w.heap.size + 1 + t - (w.heap.size + 1))) = 60 + t
    rw [if_neg (by omega), if_neg (by omega)]; omega
  have o3 : ∀ k, k < w.heap.size → own' k = own k := fun k hk => by
    rw [ho]
    show (if k < w.heap.size then own k else if k = w.heap.size then 30 else 60 + (k - (w.heap.size + 1))) = own k
    rw [if_pos hk]
  clear ho
  have emp : ∀ (m : Nat) (q : Int), (ss0.x.mp m).rt ≤ q → q < (ss0.x.mp m).iss → False := fun m q h1 h2 => by
    have h1 : (0 : Int) ≤ q := h1
    have h2 : q < (0 : Int) := h2
    omega
  refine ⟨own', ⟨hB, fun m hm => Sl.nil _ _ _, fun m _ q h1 h2 => (emp m q h1 h2).elim, fun m q _ _ _ _ h1 h2 => (emp m q h1 h2).elim, fun _ _ => rfl, fun _ _ => rfl, fun _ _ => rfl, fun t ht => ?_, ?_, fun m hm k hk => ?_, fun m _ q h1 h2 => (emp m q h1 h2).elim, fun t ht h1 => ?_, fun t ht => ?_, fun t ht k hk => ?_, fun t ht k hk => ?_⟩, ⟨h.os, h.tape, h.output, by have := h.size; omega, fun k hk => ?_, fun k hk _ => h.old k hk⟩⟩
  · refine ⟨⟨#[], 0, h.map t ht, fun e he => by simp at he, fun a => ?_⟩, ?_, ?_, fun _ => rfl, fun hf => ?_, fun h1 => ?_, fun h1 => ?_, rfl, rfl⟩
    · split <;> rfl
    · have : (if t < 6 then (ss0.p t).plans.length else 0) = 0 := by split <;> rfl
      rw [this]
      have : (if t < 6 then (ss0.p t).plans.flatMap planRow else []) = [] := by split <;> rfl
      rw [this]; exact Sl.nil _ _ _
    · have : (if t < 6 then (acts (ss0.p t)).length else 0) = 0 := by split <;> rfl
      rw [this]
      have : (if t < 6 then (acts (ss0.p t)).flatMap lreqRow else []) = [] := by split <;> rfl
      rw [this]; exact Sl.nil _ _ _
    · have h1 : (false : Bool) = true := hf.1
      cases h1
    · have h1 : (false : Bool) = true := h1
      cases h1
    · have h1 : (false : Bool) = true := h1
      cases h1
  · exact o1
  · cases hk
  · have h1 : (false : Bool) = true := h1
    cases h1
  · exact o2 t
  · cases hk
  · cases hk
  · exact o3 k hk
theorem mk87 (w : World) : (Instr.makeMap 87 none).run Tryd.prog w = .ok (.map (some w.heap.size)) (w.alloc (.map #[] 0)) := by kernel_rfl
theorem al_put (w : World) (b : Nat) (cs : Array Value) (T : TypeId) (x : Obj) (h : b < w.heap.size) : (put w b cs T).alloc x = put (w.alloc x) b cs T := by
  rw [put_alloc]; exact h
attribute [local go_sem] ng_get ng_set mk87
def fr13 (mb t : Nat) (u : Nat → Value) : Act :=
  { tmps := ((u 0) :: (.pointer (some ⟨mb, 0, none⟩)) :: (u 2) :: (u 3) :: (u 4) :: (.int .i64 (t : Nat)) :: (u 6) :: (u 7) :: (u 8) :: (u 9) :: (u 10) :: (u 11) :: (u 12) :: (u 13) :: (u 14) :: (u 15) :: (u 16) :: [] : List Value).toArray, defers := [] }

set_option maxRecDepth 100000 in
set_option maxHeartbeats 4000000 in
theorem mnew_any (own : Nat → Nat) (w : World) :
    Calls Tryd.prog 13 #[] w fun e w' => e = .returned (.pointer (some ⟨w.heap.size, 0, none⟩)) ∧ ∃ own', MR own' w' w.heap.size (ma0 (w.heap.size + 1)) (fun _ _ => 0) ss0 ∧ Ext own own' (fun _ => False) w w' := by
  go_enter Tryd.func13, Tryd.ntmps13
  go_wp2_with fail
  rw [← encN_zero]
  have h0 : NI w 0 (w.alloc (.cells (encN (fun _ => .map none)) 104)) := ⟨⟨_, Blk.new w _ _, fun τ hτ => absurd hτ (by omega)⟩, fun τ hτ => absurd hτ (by omega), by simp, fun k hk => Below.heap_alloc _ _ k hk, rfl, rfl, rfl⟩
  generalize w.alloc (.cells (encN (fun _ => .map none)) 104) = W at *
  refine q_of (Q := fun a => (Code.loop _).wp Tryd.prog _ a _) (F := fr13 w.heap.size 0) (fun u0 => ?_) _ (by kernel_rfl)
  refine wp_loop (fun act wr => ∃ (u : Nat → Value) (k : Nat), act = fr13 w.heap.size k u ∧ k ≤ 7 ∧ Hid (NI w k wr)) (fun act _ => 7 - (intOf (act.tmps.getD 5 undef)).toNat) ?start ?round
  case start => exact ⟨u0, 0, rfl, by omega, h0⟩
  case round =>
    rintro a0 wr ⟨u, k, rfl, hk, hI⟩
    obtain ⟨KR, hKR⟩ : ∃ KR : Act → World → Prop, KR = fun a' w' => ((fun act wr => ∃ (u : Nat → Value) (k : Nat), act = fr13 w.heap.size k u ∧ k ≤ 7 ∧ Hid (NI w k wr)) a' w' ∧ 7 - (intOf (a'.tmps.getD 5 undef)).toNat < 7 - (intOf ((fr13 w.heap.size k u).tmps.getD 5 undef)).toNat) := ⟨_, rfl⟩
    have HKR : Hid (∀ (act : Act) (w' : World), act = fr13 w.heap.size (k + 1) (fun i => act.tmps.getD i undef) → k < 7 → NI w (k + 1) w' → KR act w') := fun act w' e hjl hl => by
      rw [hKR]
      refine ⟨⟨_, k + 1, e, hjl, hl⟩, ?_⟩
      have e1 : act.tmps.getD 5 undef = .int .i64 ((k + 1 : Nat) : Int) := by rw [e]; rfl
      have e2 : (fr13 w.heap.size k u).tmps.getD 5 undef = .int .i64 ((k : Nat) : Int) := rfl
      simp only [e1, e2, intOf]
      omega
    rw [← hKR]
    clear hKR
    have hadd : IntKind.i64.wrap (((k : Nat) : Int) + 1) = (k : Nat) + 1 := by simp [IntKind.wrap, IntKind.bits, IntKind.signed]; omega
    by_cases hk7 : k < 7
    · have hki : ((k : Nat) : Int) < 7 := by omega
      obtain ⟨f, hB, hf⟩ := hI.out.blk
      obtain ⟨w1, rfl, hl1⟩ := hB.out
      have HN := hid_of (hI.out.next hf)
      rw [al_put _ _ _ _ _ hl1] at HN
      have hs1 : w1.heap.size = w.heap.size + 1 + k := by have := hI.out.size; rw [put_size] at this; exact this
      clear h0 hI hf hB
      unfold fr13
      go_upto_region 5 with fail
      refine wp_region_list ?_
      obtain ⟨w9, hw9⟩ : ∃ w9, w1.alloc (.map #[] 0) = w9 := ⟨_, rfl⟩
      have hlp : w.heap.size < w9.heap.size := by rw [← hw9]; simp; omega
      rw [hw9] at HN
      have HW9 := hid_of hw9
      clear hw9
      go_wp2_with ((with_reducible show wpList _ _ _ ({ dst := some 11, op := _, type := _, pos := _, after := _, guard := _ } :: _) _ _); rw [al_put _ _ _ _ _ hl1, HW9.out])
      exact HKR.out _ _ (by kernel_rfl) hk7 HN.out
    · have hki : ¬ ((k : Nat) : Int) < 7 := by omega
      have HE : k = 7 := by omega
      subst HE
      clear h0
      obtain ⟨own', h1, h2⟩ := hI.out.done (own := own)
      have H1 := hid_of h1
      have H2 := hid_of h2
      clear h1 h2 hI
      unfold fr13
      go_wp2_with fail
      go_ret
      exact ⟨rfl, own', H1.out, H2.out⟩
end Go.Proofs.Qxb6500750aDoor
