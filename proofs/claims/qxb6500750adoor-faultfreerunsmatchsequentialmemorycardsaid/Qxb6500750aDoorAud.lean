import Derived.Test.Qxb6500750aDoorXInv2
namespace Go.Proofs.Qxb6500750aDoor
open Go.RowKit
/-! ### The auditor's books, as data -/
structure AU where
  rg : Nat
  av : Nat → Value
  gr : Nat → Int
  rt : Nat → Int
  tk : Nat → Bool
  ba : Nat → Bool
  cut : Nat → Bool
  turn : Nat → Int
  pt : Nat → Value
  fm : Nat
  f0 : Bool
  f1 : Bool
  f2 : Bool
  f3 : Bool
def acell (a : AU) (i : Nat) : Value :=
  if i < 1 then .pointer (some ⟨a.rg, 0, none⟩) else if i < 4 then a.av (i - 1) else if i < 7 then .int .i64 (a.gr (i - 4)) else if i < 10 then .int .i64 (a.rt (i - 7)) else if i < 13 then .bool (a.tk (i - 10)) else if i < 16 then .bool (a.ba (i - 13))
  else if i < 23 then .bool (a.cut (i - 16)) else if i < 30 then .int .i64 (a.turn (i - 23)) else if i < 37 then a.pt (i - 30) else if i < 38 then .map (some a.fm)
  else if i < 39 then .bool a.f0 else if i < 40 then .bool a.f1 else if i < 41 then .bool a.f2 else .bool a.f3
def encA (a : AU) : Array Value := row 42 (acell a)
section
variable (a : AU)
theorem ag_rg : (encA a)[0]? = some (.pointer (some ⟨a.rg, 0, none⟩)) := row_get _ _ _ (by decide)
theorem ag_fm : (encA a)[37]? = some (.map (some a.fm)) := row_get _ _ _ (by decide)
theorem ag_f0 : (encA a)[38]? = some (.bool a.f0) := row_get _ _ _ (by decide)
theorem ag_f1 : (encA a)[39]? = some (.bool a.f1) := row_get _ _ _ (by decide)
theorem ag_f2 : (encA a)[40]? = some (.bool a.f2) := row_get _ _ _ (by decide)
theorem ag_f3 : (encA a)[41]? = some (.bool a.f3) := row_get _ _ _ (by decide)
theorem ac_av (k : Nat) (hk : k < 3) : acell a (1 + k) = (a.av k) := by
  unfold acell; rw [if_neg (by omega), if_pos (by omega), show 1 + k - 1 = k from by omega]
theorem ag_av (k : Nat) (hk : k < 3) : (encA a)[1 + k]? = some ((a.av k)) := by
  rw [encA, row_get _ _ _ (by omega), ac_av a k hk]
theorem ac_gr (k : Nat) (hk : k < 3) : acell a (4 + k) = .int .i64 (a.gr k) := by
  unfold acell; rw [if_neg (by omega), if_neg (by omega), if_pos (by omega), show 4 + k - 4 = k from by omega]
theorem ag_gr (k : Nat) (hk : k < 3) : (encA a)[4 + k]? = some (.int .i64 (a.gr k)) := by
  rw [encA, row_get _ _ _ (by omega), ac_gr a k hk]
theorem ac_rt (k : Nat) (hk : k < 3) : acell a (7 + k) = .int .i64 (a.rt k) := by
  unfold acell; rw [if_neg (by omega), if_neg (by omega), if_neg (by omega), if_pos (by omega), show 7 + k - 7 = k from by omega]
theorem ag_rt (k : Nat) (hk : k < 3) : (encA a)[7 + k]? = some (.int .i64 (a.rt k)) := by
  rw [encA, row_get _ _ _ (by omega), ac_rt a k hk]
theorem ac_tk (k : Nat) (hk : k < 3) : acell a (10 + k) = .bool (a.tk k) := by
  unfold acell; rw [if_neg (by omega), if_neg (by omega), if_neg (by omega), if_neg (by omega), if_pos (by omega), show 10 + k - 10 = k from by omega]
theorem ag_tk (k : Nat) (hk : k < 3) : (encA a)[10 + k]? = some (.bool (a.tk k)) := by
  rw [encA, row_get _ _ _ (by omega), ac_tk a k hk]
theorem ac_ba (k : Nat) (hk : k < 3) : acell a (13 + k) = .bool (a.ba k) := by
  unfold acell; rw [if_neg (by omega), if_neg (by omega), if_neg (by omega), if_neg (by omega), if_neg (by omega), if_pos (by omega), show 13 + k - 13 = k from by omega]
theorem ag_ba (k : Nat) (hk : k < 3) : (encA a)[13 + k]? = some (.bool (a.ba k)) := by
  rw [encA, row_get _ _ _ (by omega), ac_ba a k hk]
theorem ac_cut (k : Nat) (hk : k < 7) : acell a (16 + k) = .bool (a.cut k) := by
  unfold acell; rw [if_neg (by omega), if_neg (by omega), if_neg (by omega), if_neg (by omega), if_neg (by omega), if_neg (by omega), if_pos (by omega), show 16 + k - 16 = k from by omega]
theorem ag_cut (k : Nat) (hk : k < 7) : (encA a)[16 + k]? = some (.bool (a.cut k)) := by
  rw [encA, row_get _ _ _ (by omega), ac_cut a k hk]
theorem ac_turn (k : Nat) (hk : k < 7) : acell a (23 + k) = .int .i64 (a.turn k) := by
  unfold acell; rw [if_neg (by omega), if_neg (by omega), if_neg (by omega), if_neg (by omega), if_neg (by omega), if_neg (by omega), if_neg (by omega), if_pos (by omega), show 23 + k - 23 = k from by omega]
theorem ag_turn (k : Nat) (hk : k < 7) : (encA a)[23 + k]? = some (.int .i64 (a.turn k)) := by
  rw [encA, row_get _ _ _ (by omega), ac_turn a k hk]
theorem ac_pt (k : Nat) (hk : k < 7) : acell a (30 + k) = (a.pt k) := by
  unfold acell; rw [if_neg (by omega), if_neg (by omega), if_neg (by omega), if_neg (by omega), if_neg (by omega), if_neg (by omega), if_neg (by omega), if_neg (by omega), if_pos (by omega), show 30 + k - 30 = k from by omega]
theorem ag_pt (k : Nat) (hk : k < 7) : (encA a)[30 + k]? = some ((a.pt k)) := by
  rw [encA, row_get _ _ _ (by omega), ac_pt a k hk]
theorem a_places (j : Nat) (hj : j < 42) : j = 0 ∨ (∃ i, i < 3 ∧ j = 1 + i) ∨ (∃ i, i < 3 ∧ j = 4 + i) ∨ (∃ i, i < 3 ∧ j = 7 + i) ∨ (∃ i, i < 3 ∧ j = 10 + i) ∨ (∃ i, i < 3 ∧ j = 13 + i) ∨ (∃ i, i < 7 ∧ j = 16 + i) ∨ (∃ i, i < 7 ∧ j = 23 + i) ∨ (∃ i, i < 7 ∧ j = 30 + i) ∨ j = 37 ∨ j = 38 ∨ j = 39 ∨ j = 40 ∨ j = 41 := by
  by_cases h0 : j < 1
  · left; omega
  by_cases h1 : j < 4
  · right; left; exact ⟨j - 1, by omega, by omega⟩
  by_cases h2 : j < 7
  · right; right; left; exact ⟨j - 4, by omega, by omega⟩
  by_cases h3 : j < 10
  · right; right; right; left; exact ⟨j - 7, by omega, by omega⟩
  by_cases h4 : j < 13
  · right; right; right; right; left; exact ⟨j - 10, by omega, by omega⟩
  by_cases h5 : j < 16
  · right; right; right; right; right; left; exact ⟨j - 13, by omega, by omega⟩
  by_cases h6 : j < 23
  · right; right; right; right; right; right; left; exact ⟨j - 16, by omega, by omega⟩
  by_cases h7 : j < 30
  · right; right; right; right; right; right; right; left; exact ⟨j - 23, by omega, by omega⟩
  by_cases h8 : j < 37
  · right; right; right; right; right; right; right; right; left; exact ⟨j - 30, by omega, by omega⟩
  right; right; right; right; right; right; right; right; right; omega
theorem as_av (k : Nat) (hk : k < 3) (v : Value) : (encA a).setIfInBounds (1 + k) (v) = encA { a with av := upd a.av k v } := by
  refine row_set _ _ _ _ _ fun j hj => ?_
  rcases a_places j hj with rfl | ⟨i, hi, rfl⟩ | ⟨i, hi, rfl⟩ | ⟨i, hi, rfl⟩ | ⟨i, hi, rfl⟩ | ⟨i, hi, rfl⟩ | ⟨i, hi, rfl⟩ | ⟨i, hi, rfl⟩ | ⟨i, hi, rfl⟩ | rfl | rfl | rfl | rfl | rfl
  · rw [if_neg (by omega)]; rfl
  · rw [ac_av _ i hi, ac_av _ i hi]
    by_cases e : i = k
    · subst e; simp [upd]
    · rw [if_neg (by omega)]; simp [upd, e]
  · rw [ac_gr _ i hi, ac_gr _ i hi, if_neg (by omega)]
  · rw [ac_rt _ i hi, ac_rt _ i hi, if_neg (by omega)]
  · rw [ac_tk _ i hi, ac_tk _ i hi, if_neg (by omega)]
  · rw [ac_ba _ i hi, ac_ba _ i hi, if_neg (by omega)]
  · rw [ac_cut _ i hi, ac_cut _ i hi, if_neg (by omega)]
  · rw [ac_turn _ i hi, ac_turn _ i hi, if_neg (by omega)]
  · rw [ac_pt _ i hi, ac_pt _ i hi, if_neg (by omega)]
  · rw [if_neg (by omega)]; rfl
  · rw [if_neg (by omega)]; rfl
  · rw [if_neg (by omega)]; rfl
  · rw [if_neg (by omega)]; rfl
  · rw [if_neg (by omega)]; rfl
theorem as_gr (k : Nat) (hk : k < 3) (v : Int) : (encA a).setIfInBounds (4 + k) (.int .i64 v) = encA { a with gr := upd a.gr k v } := by
  refine row_set _ _ _ _ _ fun j hj => ?_
  rcases a_places j hj with rfl | ⟨i, hi, rfl⟩ | ⟨i, hi, rfl⟩ | ⟨i, hi, rfl⟩ | ⟨i, hi, rfl⟩ | ⟨i, hi, rfl⟩ | ⟨i, hi, rfl⟩ | ⟨i, hi, rfl⟩ | ⟨i, hi, rfl⟩ | rfl | rfl | rfl | rfl | rfl
  · rw [if_neg (by omega)]; rfl
  · rw [ac_av _ i hi, ac_av _ i hi, if_neg (by omega)]
  · rw [ac_gr _ i hi, ac_gr _ i hi]
    by_cases e : i = k
    · subst e; simp [upd]
    · rw [if_neg (by omega)]; simp [upd, e]
  · rw [ac_rt _ i hi, ac_rt _ i hi, if_neg (by omega)]
  · rw [ac_tk _ i hi, ac_tk _ i hi, if_neg (by omega)]
  · rw [ac_ba _ i hi, ac_ba _ i hi, if_neg (by omega)]
  · rw [ac_cut _ i hi, ac_cut _ i hi, if_neg (by omega)]
  · rw [ac_turn _ i hi, ac_turn _ i hi, if_neg (by omega)]
  · rw [ac_pt _ i hi, ac_pt _ i hi, if_neg (by omega)]
  · rw [if_neg (by omega)]; rfl
  · rw [if_neg (by omega)]; rfl
  · rw [if_neg (by omega)]; rfl
  · rw [if_neg (by omega)]; rfl
  · rw [if_neg (by omega)]; rfl
theorem as_rt (k : Nat) (hk : k < 3) (v : Int) : (encA a).setIfInBounds (7 + k) (.int .i64 v) = encA { a with rt := upd a.rt k v } := by
  refine row_set _ _ _ _ _ fun j hj => ?_
  rcases a_places j hj with rfl | ⟨i, hi, rfl⟩ | ⟨i, hi, rfl⟩ | ⟨i, hi, rfl⟩ | ⟨i, hi, rfl⟩ | ⟨i, hi, rfl⟩ | ⟨i, hi, rfl⟩ | ⟨i, hi, rfl⟩ | ⟨i, hi, rfl⟩ | rfl | rfl | rfl | rfl | rfl
  · rw [if_neg (by omega)]; rfl
  · rw [ac_av _ i hi, ac_av _ i hi, if_neg (by omega)]
  · rw [ac_gr _ i hi, ac_gr _ i hi, if_neg (by omega)]
  · rw [ac_rt _ i hi, ac_rt _ i hi]
    by_cases e : i = k
    · subst e; simp [upd]
    · rw [if_neg (by omega)]; simp [upd, e]
  · rw [ac_tk _ i hi, ac_tk _ i hi, if_neg (by omega)]
  · rw [ac_ba _ i hi, ac_ba _ i hi, if_neg (by omega)]
  · rw [ac_cut _ i hi, ac_cut _ i hi, if_neg (by omega)]
  · rw [ac_turn _ i hi, ac_turn _ i hi, if_neg (by omega)]
  · rw [ac_pt _ i hi, ac_pt _ i hi, if_neg (by omega)]
  · rw [if_neg (by omega)]; rfl
  · rw [if_neg (by omega)]; rfl
  · rw [if_neg (by omega)]; rfl
  · rw [if_neg (by omega)]; rfl
  · rw [if_neg (by omega)]; rfl
theorem as_tk (k : Nat) (hk : k < 3) (v : Bool) : (encA a).setIfInBounds (10 + k) (.bool v) = encA { a with tk := upd a.tk k v } := by
  refine row_set _ _ _ _ _ fun j hj => ?_
  rcases a_places j hj with rfl | ⟨i, hi, rfl⟩ | ⟨i, hi, rfl⟩ | ⟨i, hi, rfl⟩ | ⟨i, hi, rfl⟩ | ⟨i, hi, rfl⟩ | ⟨i, hi, rfl⟩ | ⟨i, hi, rfl⟩ | ⟨i, hi, rfl⟩ | rfl | rfl | rfl | rfl | rfl
  · rw [if_neg (by omega)]; rfl
  · rw [ac_av _ i hi, ac_av _ i hi, if_neg (by omega)]
  · rw [ac_gr _ i hi, ac_gr _ i hi, if_neg (by omega)]
  · rw [ac_rt _ i hi, ac_rt _ i hi, if_neg (by omega)]
  · rw [ac_tk _ i hi, ac_tk _ i hi]
    by_cases e : i = k
    · subst e; simp [upd]
    · rw [if_neg (by omega)]; simp [upd, e]
  · rw [ac_ba _ i hi, ac_ba _ i hi, if_neg (by omega)]
  · rw [ac_cut _ i hi, ac_cut _ i hi, if_neg (by omega)]
  · rw [ac_turn _ i hi, ac_turn _ i hi, if_neg (by omega)]
  · rw [ac_pt _ i hi, ac_pt _ i hi, if_neg (by omega)]
  · rw [if_neg (by omega)]; rfl
  · rw [if_neg (by omega)]; rfl
  · rw [if_neg (by omega)]; rfl
  · rw [if_neg (by omega)]; rfl
  · rw [if_neg (by omega)]; rfl
theorem as_ba (k : Nat) (hk : k < 3) (v : Bool) : (encA a).setIfInBounds (13 + k) (.bool v) = encA { a with ba := upd a.ba k v } := by
  refine row_set _ _ _ _ _ fun j hj => ?_
  rcases a_places j hj with rfl | ⟨i, hi, rfl⟩ | ⟨i, hi, rfl⟩ | ⟨i, hi, rfl⟩ | ⟨i, hi, rfl⟩ | ⟨i, hi, rfl⟩ | ⟨i, hi, rfl⟩ | ⟨i, hi, rfl⟩ | ⟨i, hi, rfl⟩ | rfl | rfl | rfl | rfl | rfl
  · rw [if_neg (by omega)]; rfl
  · rw [ac_av _ i hi, ac_av _ i hi, if_neg (by omega)]
  · rw [ac_gr _ i hi, ac_gr _ i hi, if_neg (by omega)]
  · rw [ac_rt _ i hi, ac_rt _ i hi, if_neg (by omega)]
  · rw [ac_tk _ i hi, ac_tk _ i hi, if_neg (by omega)]
  · rw [ac_ba _ i hi, ac_ba _ i hi]
    by_cases e : i = k
    · subst e; simp [upd]
    · rw [if_neg (by omega)]; simp [upd, e]
  · rw [ac_cut _ i hi, ac_cut _ i hi, if_neg (by omega)]
  · rw [ac_turn _ i hi, ac_turn _ i hi, if_neg (by omega)]
  · rw [ac_pt _ i hi, ac_pt _ i hi, if_neg (by omega)]
  · rw [if_neg (by omega)]; rfl
  · rw [if_neg (by omega)]; rfl
  · rw [if_neg (by omega)]; rfl
  · rw [if_neg (by omega)]; rfl
  · rw [if_neg (by omega)]; rfl
theorem as_cut (k : Nat) (hk : k < 7) (v : Bool) : (encA a).setIfInBounds (16 + k) (.bool v) = encA { a with cut := upd a.cut k v } := by
  refine row_set _ _ _ _ _ fun j hj => ?_
  rcases a_places j hj with rfl | ⟨i, hi, rfl⟩ | ⟨i, hi, rfl⟩ | ⟨i, hi, rfl⟩ | ⟨i, hi, rfl⟩ | ⟨i, hi, rfl⟩ | ⟨i, hi, rfl⟩ | ⟨i, hi, rfl⟩ | ⟨i, hi, rfl⟩ | rfl | rfl | rfl | rfl | rfl
  · rw [if_neg (by omega)]; rfl
  · rw [ac_av _ i hi, ac_av _ i hi, if_neg (by omega)]
  · rw [ac_gr _ i hi, ac_gr _ i hi, if_neg (by omega)]
  · rw [ac_rt _ i hi, ac_rt _ i hi, if_neg (by omega)]
  · rw [ac_tk _ i hi, ac_tk _ i hi, if_neg (by omega)]
  · rw [ac_ba _ i hi, ac_ba _ i hi, if_neg (by omega)]
  · rw [ac_cut _ i hi, ac_cut _ i hi]
    by_cases e : i = k
    · subst e; simp [upd]
    · rw [if_neg (by omega)]; simp [upd, e]
  · rw [ac_turn _ i hi, ac_turn _ i hi, if_neg (by omega)]
  · rw [ac_pt _ i hi, ac_pt _ i hi, if_neg (by omega)]
  · rw [if_neg (by omega)]; rfl
  · rw [if_neg (by omega)]; rfl
  · rw [if_neg (by omega)]; rfl
  · rw [if_neg (by omega)]; rfl
  · rw [if_neg (by omega)]; rfl
theorem as_turn (k : Nat) (hk : k < 7) (v : Int) : (encA a).setIfInBounds (23 + k) (.int .i64 v) = encA { a with turn := upd a.turn k v } := by
  refine row_set _ _ _ _ _ fun j hj => ?_
  rcases a_places j hj with rfl | ⟨i, hi, rfl⟩ | ⟨i, hi, rfl⟩ | ⟨i, hi, rfl⟩ | ⟨i, hi, rfl⟩ | ⟨i, hi, rfl⟩ | ⟨i, hi, rfl⟩ | ⟨i, hi, rfl⟩ | ⟨i, hi, rfl⟩ | rfl | rfl | rfl | rfl | rfl
  · rw [if_neg (by omega)]; rfl
  · rw [ac_av _ i hi, ac_av _ i hi, if_neg (by omega)]
  · rw [ac_gr _ i hi, ac_gr _ i hi, if_neg (by omega)]
  · rw [ac_rt _ i hi, ac_rt _ i hi, if_neg (by omega)]
  · rw [ac_tk _ i hi, ac_tk _ i hi, if_neg (by omega)]
  · rw [ac_ba _ i hi, ac_ba _ i hi, if_neg (by omega)]
  · rw [ac_cut _ i hi, ac_cut _ i hi, if_neg (by omega)]
  · rw [ac_turn _ i hi, ac_turn _ i hi]
    by_cases e : i = k
    · subst e; simp [upd]
    · rw [if_neg (by omega)]; simp [upd, e]
  · rw [ac_pt _ i hi, ac_pt _ i hi, if_neg (by omega)]
  · rw [if_neg (by omega)]; rfl
  · rw [if_neg (by omega)]; rfl
  · rw [if_neg (by omega)]; rfl
  · rw [if_neg (by omega)]; rfl
  · rw [if_neg (by omega)]; rfl
theorem as_pt (k : Nat) (hk : k < 7) (v : Value) : (encA a).setIfInBounds (30 + k) (v) = encA { a with pt := upd a.pt k v } := by
  refine row_set _ _ _ _ _ fun j hj => ?_
  rcases a_places j hj with rfl | ⟨i, hi, rfl⟩ | ⟨i, hi, rfl⟩ | ⟨i, hi, rfl⟩ | ⟨i, hi, rfl⟩ | ⟨i, hi, rfl⟩ | ⟨i, hi, rfl⟩ | ⟨i, hi, rfl⟩ | ⟨i, hi, rfl⟩ | rfl | rfl | rfl | rfl | rfl
  · rw [if_neg (by omega)]; rfl
  · rw [ac_av _ i hi, ac_av _ i hi, if_neg (by omega)]
  · rw [ac_gr _ i hi, ac_gr _ i hi, if_neg (by omega)]
  · rw [ac_rt _ i hi, ac_rt _ i hi, if_neg (by omega)]
  · rw [ac_tk _ i hi, ac_tk _ i hi, if_neg (by omega)]
  · rw [ac_ba _ i hi, ac_ba _ i hi, if_neg (by omega)]
  · rw [ac_cut _ i hi, ac_cut _ i hi, if_neg (by omega)]
  · rw [ac_turn _ i hi, ac_turn _ i hi, if_neg (by omega)]
  · rw [ac_pt _ i hi, ac_pt _ i hi]
    by_cases e : i = k
    · subst e; simp [upd]
    · rw [if_neg (by omega)]; simp [upd, e]
  · rw [if_neg (by omega)]; rfl
  · rw [if_neg (by omega)]; rfl
  · rw [if_neg (by omega)]; rfl
  · rw [if_neg (by omega)]; rfl
  · rw [if_neg (by omega)]; rfl
theorem as_f0 (v : Bool) : (encA a).setIfInBounds 38 (.bool v) = encA { a with f0 := v } := by
  refine row_set _ _ _ _ _ fun j hj => ?_
  rcases a_places j hj with rfl | ⟨i, hi, rfl⟩ | ⟨i, hi, rfl⟩ | ⟨i, hi, rfl⟩ | ⟨i, hi, rfl⟩ | ⟨i, hi, rfl⟩ | ⟨i, hi, rfl⟩ | ⟨i, hi, rfl⟩ | ⟨i, hi, rfl⟩ | rfl | rfl | rfl | rfl | rfl
  · rw [if_neg (by omega)]; rfl
  · rw [ac_av _ i hi, ac_av _ i hi, if_neg (by omega)]
  · rw [ac_gr _ i hi, ac_gr _ i hi, if_neg (by omega)]
  · rw [ac_rt _ i hi, ac_rt _ i hi, if_neg (by omega)]
  · rw [ac_tk _ i hi, ac_tk _ i hi, if_neg (by omega)]
  · rw [ac_ba _ i hi, ac_ba _ i hi, if_neg (by omega)]
  · rw [ac_cut _ i hi, ac_cut _ i hi, if_neg (by omega)]
  · rw [ac_turn _ i hi, ac_turn _ i hi, if_neg (by omega)]
  · rw [ac_pt _ i hi, ac_pt _ i hi, if_neg (by omega)]
  · rw [if_neg (by omega)]; rfl
  · rfl
  · rw [if_neg (by omega)]; rfl
  · rw [if_neg (by omega)]; rfl
  · rw [if_neg (by omega)]; rfl
theorem as_f1 (v : Bool) : (encA a).setIfInBounds 39 (.bool v) = encA { a with f1 := v } := by
  refine row_set _ _ _ _ _ fun j hj => ?_
  rcases a_places j hj with rfl | ⟨i, hi, rfl⟩ | ⟨i, hi, rfl⟩ | ⟨i, hi, rfl⟩ | ⟨i, hi, rfl⟩ | ⟨i, hi, rfl⟩ | ⟨i, hi, rfl⟩ | ⟨i, hi, rfl⟩ | ⟨i, hi, rfl⟩ | rfl | rfl | rfl | rfl | rfl
  · rw [if_neg (by omega)]; rfl
  · rw [ac_av _ i hi, ac_av _ i hi, if_neg (by omega)]
  · rw [ac_gr _ i hi, ac_gr _ i hi, if_neg (by omega)]
  · rw [ac_rt _ i hi, ac_rt _ i hi, if_neg (by omega)]
  · rw [ac_tk _ i hi, ac_tk _ i hi, if_neg (by omega)]
  · rw [ac_ba _ i hi, ac_ba _ i hi, if_neg (by omega)]
  · rw [ac_cut _ i hi, ac_cut _ i hi, if_neg (by omega)]
  · rw [ac_turn _ i hi, ac_turn _ i hi, if_neg (by omega)]
  · rw [ac_pt _ i hi, ac_pt _ i hi, if_neg (by omega)]
  · rw [if_neg (by omega)]; rfl
  · rw [if_neg (by omega)]; rfl
  · rfl
  · rw [if_neg (by omega)]; rfl
  · rw [if_neg (by omega)]; rfl
theorem as_f2 (v : Bool) : (encA a).setIfInBounds 40 (.bool v) = encA { a with f2 := v } := by
  refine row_set _ _ _ _ _ fun j hj => ?_
  rcases a_places j hj with rfl | ⟨i, hi, rfl⟩ | ⟨i, hi, rfl⟩ | ⟨i, hi, rfl⟩ | ⟨i, hi, rfl⟩ | ⟨i, hi, rfl⟩ | ⟨i, hi, rfl⟩ | ⟨i, hi, rfl⟩ | ⟨i, hi, rfl⟩ | rfl | rfl | rfl | rfl | rfl
  · rw [if_neg (by omega)]; rfl
  · rw [ac_av _ i hi, ac_av _ i hi, if_neg (by omega)]
  · rw [ac_gr _ i hi, ac_gr _ i hi, if_neg (by omega)]
  · rw [ac_rt _ i hi, ac_rt _ i hi, if_neg (by omega)]
  · rw [ac_tk _ i hi, ac_tk _ i hi, if_neg (by omega)]
  · rw [ac_ba _ i hi, ac_ba _ i hi, if_neg (by omega)]
  · rw [ac_cut _ i hi, ac_cut _ i hi, if_neg (by omega)]
  · rw [ac_turn _ i hi, ac_turn _ i hi, if_neg (by omega)]
  · rw [ac_pt _ i hi, ac_pt _ i hi, if_neg (by omega)]
  · rw [if_neg (by omega)]; rfl
  · rw [if_neg (by omega)]; rfl
  · rw [if_neg (by omega)]; rfl
  · rfl
  · rw [if_neg (by omega)]; rfl
theorem as_f3 (v : Bool) : (encA a).setIfInBounds 41 (.bool v) = encA { a with f3 := v } := by
  refine row_set _ _ _ _ _ fun j hj => ?_
  rcases a_places j hj with rfl | ⟨i, hi, rfl⟩ | ⟨i, hi, rfl⟩ | ⟨i, hi, rfl⟩ | ⟨i, hi, rfl⟩ | ⟨i, hi, rfl⟩ | ⟨i, hi, rfl⟩ | ⟨i, hi, rfl⟩ | ⟨i, hi, rfl⟩ | rfl | rfl | rfl | rfl | rfl
  · rw [if_neg (by omega)]; rfl
  · rw [ac_av _ i hi, ac_av _ i hi, if_neg (by omega)]
  · rw [ac_gr _ i hi, ac_gr _ i hi, if_neg (by omega)]
  · rw [ac_rt _ i hi, ac_rt _ i hi, if_neg (by omega)]
  · rw [ac_tk _ i hi, ac_tk _ i hi, if_neg (by omega)]
  · rw [ac_ba _ i hi, ac_ba _ i hi, if_neg (by omega)]
  · rw [ac_cut _ i hi, ac_cut _ i hi, if_neg (by omega)]
  · rw [ac_turn _ i hi, ac_turn _ i hi, if_neg (by omega)]
  · rw [ac_pt _ i hi, ac_pt _ i hi, if_neg (by omega)]
  · rw [if_neg (by omega)]; rfl
  · rw [if_neg (by omega)]; rfl
  · rw [if_neg (by omega)]; rfl
  · rw [if_neg (by omega)]; rfl
  · rfl
theorem as_fm (v : Nat) : (encA a).setIfInBounds 37 (.map (some v)) = encA { a with fm := v } := by
  refine row_set _ _ _ _ _ fun j hj => ?_
  rcases a_places j hj with rfl | ⟨i, hi, rfl⟩ | ⟨i, hi, rfl⟩ | ⟨i, hi, rfl⟩ | ⟨i, hi, rfl⟩ | ⟨i, hi, rfl⟩ | ⟨i, hi, rfl⟩ | ⟨i, hi, rfl⟩ | ⟨i, hi, rfl⟩ | rfl | rfl | rfl | rfl | rfl
  · rw [if_neg (by omega)]; rfl
  · rw [ac_av _ i hi, ac_av _ i hi, if_neg (by omega)]
  · rw [ac_gr _ i hi, ac_gr _ i hi, if_neg (by omega)]
  · rw [ac_rt _ i hi, ac_rt _ i hi, if_neg (by omega)]
  · rw [ac_tk _ i hi, ac_tk _ i hi, if_neg (by omega)]
  · rw [ac_ba _ i hi, ac_ba _ i hi, if_neg (by omega)]
  · rw [ac_cut _ i hi, ac_cut _ i hi, if_neg (by omega)]
  · rw [ac_turn _ i hi, ac_turn _ i hi, if_neg (by omega)]
  · rw [ac_pt _ i hi, ac_pt _ i hi, if_neg (by omega)]
  · rfl
  · rw [if_neg (by omega)]; rfl
  · rw [if_neg (by omega)]; rfl
  · rw [if_neg (by omega)]; rfl
  · rw [if_neg (by omega)]; rfl
end
theorem Tryd.size82 : (Tryd.prog.info? 82).map (·.size) = some 42 := by kernel_rfl
/-! ### One flight -/
structure FL where
  m : Int
  w : Bool
  t : Int
  n : Int
  ac : Int
  la : Int
  rep : Bool
def encF (f : FL) : Array Value := #[.int .i64 f.m, .bool f.w, .int .i64 f.t, .int .i64 f.n, .int .i64 f.ac, .int .u8 f.la, .bool f.rep]
set_option linter.unusedSimpArgs false in
theorem endOf_any (p : PlanD) (hp : planOK p) (w : World) : Calls Tryd.prog 67 #[.agg #[.int .u8 p.o, .int .u32 p.l]] w fun e w' => e = .returned (.int .u8 (endP p)) ∧ Below w.heap.size w w' := by
  obtain ⟨h0, h1, h2, h3⟩ := hp
  unfold endP sendStatus
  by_cases hl : 64 ≤ p.l
  · rw [if_pos (.inl hl)]
    go_enter Tryd.func67, Tryd.ntmps67
    go_wp2
    go_ret
    exact ⟨rfl, (Below.refl _ _).alloc (Nat.le_refl _) _⟩
  · have ho : p.o = 0 ∨ p.o = 1 ∨ p.o = 2 ∨ p.o = 3 ∨ p.o = 4 ∨ p.o = 5 := by omega
    rcases ho with ho | ho | ho | ho | ho | ho <;>
      (rw [ho]
       go_enter Tryd.func67, Tryd.ntmps67
       go_wp2
       go_ret
       exact ⟨by simp [hl], (Below.refl _ _).alloc (Nat.le_refl _) _⟩)
def repB (f : FL) : Bool := f.la == 2 || (!f.w && (f.la == 3 || f.la == 4))
theorem repeatable_any (fb : Nat) (f : FL) (w : World) (hB : Blk w fb (encF f) 156) : Calls Tryd.prog 56 #[.pointer (some ⟨fb, 0, none⟩)] w fun e w' => e = .returned (.bool (repB f)) ∧ w' = w := by
  have c1 := hB.cell 1
  have c5 := hB.cell 5
  simp [encF] at c1 c5
  unfold repB
  clear hB
  cases h2 : f.la == 2 <;> cases h3 : f.la == 3 <;> cases h4 : f.la == 4 <;> cases hw : f.w <;> (go_enter Tryd.func56, Tryd.ntmps56; go_wp2; go_ret; exact ⟨rfl, rfl⟩)
end Go.Proofs.Qxb6500750aDoor
