import Derived.Test.Qxb6500750aDoorSend
namespace Go.Proofs.Qxb6500750aDoor
open Go.RowKit
attribute [local go_sem] put_size put_cell_same put_cell_ne put_frozen_same put_frozen_ne put_setCell_same put_setCell_ne put_drew
theorem mod4_lt (n : Int) : (n % 4).toNat < 4 := by omega
theorem mod4_nn (n : Int) : 0 ≤ n % 4 := by omega
theorem mod4_lt' (n : Int) : n % 4 < 4 := by omega

theorem slot_any (b o : Nat) (n : Int) (h0 : 0 ≤ n) (w : World) :
    Calls Tryd.prog 51 #[.pointer (some ⟨b, o, none⟩), .int .u32 n] w fun e w' => e = .returned (.pointer (some ⟨b, o + (n % 4).toNat * 10, none⟩)) ∧ w' = w := by
  have hm := mod4_lt n
  have hm0 := mod4_nn n
  have hm1 := mod4_lt' n
  go_enter Tryd.func51, Tryd.ntmps51
  go_wp2
  go_ret
  exact ⟨rfl, rfl⟩
def lid (m n : Int) : Int := m * 4 + n % 4
theorem linkID_any (m n : Int) (hm : 0 ≤ m ∧ m < 3) (h0 : 0 ≤ n) (w : World) :
    Calls Tryd.prog 70 #[.int .u8 m, .int .u32 n] w fun e w' => e = .returned (.int .u8 (lid m n)) ∧ w' = w := by
  have h1 : n % 4 = 0 ∨ n % 4 = 1 ∨ n % 4 = 2 ∨ n % 4 = 3 := by omega
  have h2 : m = 0 ∨ m = 1 ∨ m = 2 := by omega
  unfold lid
  rcases h2 with rfl | rfl | rfl <;> rcases h1 with h1 | h1 | h1 | h1 <;> (go_enter Tryd.func70, Tryd.ntmps70; go_wp2; go_ret; exact ⟨by rw [h1]; rfl, rfl⟩)
def mayRep (wr : Bool) (c : Int) : Bool := c == 2 || (!wr && (c == 3 || c == 4))
theorem mayRepeat_any (wr : Bool) (c : Int) (w : World) :
    Calls Tryd.prog 62 #[.bool wr, .int .u8 c] w fun e w' => e = .returned (.bool (mayRep wr c)) ∧ w' = w := by
  unfold mayRep
  cases h2 : c == 2 <;> cases h3 : c == 3 <;> cases h4 : c == 4 <;> cases wr <;> (go_enter Tryd.func62, Tryd.ntmps62; go_wp2; go_ret; exact ⟨rfl, rfl⟩)
def sat (c : Int) : Int := if c == 4294967295 then c else c + 1
theorem set_same (cs : Array Value) (o : Nat) (v : Value) (h : cs[o]? = some v) : cs.setIfInBounds o v = cs := by
  apply Array.ext_getElem?
  intro i
  by_cases e : o = i
  · subst e
    have := (Array.getElem?_eq_some_iff.1 h).1
    rw [h]; simp [this]
  · rw [Array.getElem?_setIfInBounds_ne e]
theorem bump_any (b o : Nat) (cs : Array Value) (T : TypeId) (c : Int) (hc : 0 ≤ c ∧ c < 4294967296) (w0 : World) (hb : b < w0.heap.size) (ho : cs[o]? = some (.int .u32 c)) :
    Calls Tryd.prog 64 #[.pointer (some ⟨b, o, none⟩)] (put w0 b cs T) fun e w' => e = .returned (.tuple #[]) ∧ w' = put w0 b (cs.setIfInBounds o (.int .u32 (sat c))) T := by
  obtain ⟨h0, h1⟩ := hc
  unfold sat
  cases h2 : c == 4294967295
  · have h3 : (c + 1) % 4294967296 = c + 1 := by
      have : c ≠ 4294967295 := by simpa using h2
      omega
    simp only [Bool.false_eq_true, if_false]
    go_enter Tryd.func64, Tryd.ntmps64
    go_wp2
    go_end0
    exact ⟨rfl, rfl⟩
  · simp only [if_true]
    rw [set_same cs o _ ho]
    go_enter Tryd.func64, Tryd.ntmps64
    go_wp2
    go_end0
    exact ⟨rfl, rfl⟩
def XS.setG (x : XS) (t : Nat) (v : Int) : XS := { x with sg := upd x.sg t v }
def XS.setR (x : XS) (t : Nat) (v : Int) : XS := { x with sr := upd x.sr t v }
def XS.setP (x : XS) (t : Nat) (v : Int) : XS := { x with sp := upd x.sp t v }
section
variable (L : Nat → Value) (x : XS)
theorem xs_stat (r : Nat) (hr : r < 21) (v : Value) (x' : XS) (h1 : x'.mp = x.mp) (h2 : x'.tp = x.tp) (h : ∀ j, j < 21 → ucell x' j = if j = r then v else ucell x j) :
    (encX L x).setIfInBounds (184 + r) v = encX L x' := by
  refine row_set _ _ _ _ _ fun i hi => ?_
  rcases x_places i hi with ⟨m', s', r', a, b, c, rfl⟩ | ⟨m', r', a, b, rfl⟩ | ⟨t', r', a, b, rfl⟩ | ⟨r', a, rfl⟩
  · rw [xcell_slot L _ m' s' r' a b c, xcell_slot L x m' s' r' a b c, if_neg (by omega), h1]
  · rw [xcell_tail L _ m' r' a b, xcell_tail L x m' r' a b, if_neg (by omega), h1]
  · rw [xcell_tgt L _ t' r' a b, xcell_tgt L x t' r' a b, if_neg (by omega), h2]
  · have e1 : ∀ y, xcell L y (184 + r') = ucell y r' := fun y => by unfold xcell; rw [if_neg (by omega), if_neg (by omega), show 184 + r' - 184 = r' from by omega]
    rw [e1, e1, h r' a]
    by_cases e : r' = r
    · subst e; simp
    · rw [if_neg e, if_neg (by omega)]
theorem xs_sg (t : Nat) (ht : t < 7) (v : Int) : (encX L x).setIfInBounds (184 + t) (.int .u32 v) = encX L (x.setG t v) :=
  xs_stat L x t (by omega) _ _ rfl rfl fun j hj => by
    unfold ucell
    by_cases e : j = t
    · subst e; simp [ht, XS.setG, upd]
    · rw [if_neg e]; simp [XS.setG, upd, e]
theorem xs_sr (t : Nat) (ht : t < 7) (v : Int) : (encX L x).setIfInBounds (191 + t) (.int .u32 v) = encX L (x.setR t v) := by
  have := xs_stat L x (7 + t) (by omega) (.int .u32 v) (x.setR t v) rfl rfl fun j hj => by
    unfold ucell
    by_cases e : j = 7 + t
    · subst e; rw [if_neg (by omega), if_pos (by omega)]; simp [XS.setR, upd]
    · have : j - 7 = t → j < 7 := by omega
      by_cases h7 : j < 7
      · simp [h7, XS.setR]
        intro; omega
      · have : j - 7 ≠ t := by omega
        simp [h7, XS.setR, upd, this, e]
  rwa [show 184 + (7 + t) = 191 + t from by omega] at this
theorem xs_sp (t : Nat) (ht : t < 7) (v : Int) : (encX L x).setIfInBounds (198 + t) (.int .u32 v) = encX L (x.setP t v) := by
  have := xs_stat L x (14 + t) (by omega) (.int .u32 v) (x.setP t v) rfl rfl fun j hj => by
    unfold ucell
    by_cases e : j = 14 + t
    · subst e; rw [if_neg (by omega), if_neg (by omega)]; simp [XS.setP, upd]
    · by_cases h7 : j < 7
      · simp [h7, XS.setP]
        intro; omega
      · by_cases h14 : j < 14
        · simp [h7, h14, XS.setP]
          intro; omega
        · have : j - 14 ≠ t := by omega
          simp [h7, h14, XS.setP, upd, this, e]
  rwa [show 184 + (14 + t) = 198 + t from by omega] at this
end
end Go.Proofs.Qxb6500750aDoor
