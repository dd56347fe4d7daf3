import Derived.Test.Qxb6500750aDoorStep3
namespace Go.Proofs.Qxb6500750aDoor
open Go.RowKit
/-! ### The abstract machine, as data -/
structure TG where
  wm : Nat
  pv : Value
  av : Value
  sv : Value
  lf : Int
  en : Int
  rd : Int
  tu : Int
  is : Bool
structure MA where
  q : Nat → Value
  ac : Nat → Int
  tk : Nat → Bool
  ba : Nat → Bool
  tg : Nat → TG
def tgcell (g : TG) : Nat → Value
  | 0 => .map (some g.wm)
  | 1 => g.pv
  | 2 => g.av
  | 3 => g.sv
  | 4 => .int .u32 g.lf
  | 5 => .int .u8 g.en
  | 6 => .int .u32 g.rd
  | 7 => .int .i64 g.tu
  | _ => .bool g.is
def macell (a : MA) (i : Nat) : Value :=
  if i < 3 then a.q i else if i < 6 then .int .u32 (a.ac (i - 3)) else if i < 9 then .bool (a.tk (i - 6)) else if i < 12 then .bool (a.ba (i - 9)) else tgcell (a.tg ((i - 12) / 9)) ((i - 12) % 9)
def encM (a : MA) : Array Value := row 75 (macell a)
theorem macell_t (a : MA) (t j : Nat) (hj : j < 9) : macell a (12 + t * 9 + j) = tgcell (a.tg t) j := by
  unfold macell
  rw [if_neg (by omega), if_neg (by omega), if_neg (by omega), if_neg (by omega), show (12 + t * 9 + j - 12) / 9 = t by omega, show (12 + t * 9 + j - 12) % 9 = j by omega]
/-- A target's record laid anew. -/
theorem ms_row (a : MA) (t : Nat) (g : TG) (j : Nat) (hj : j < 9) (v : Value) (hv : tgcell g j = v) (ho : ∀ i, i < 9 → i ≠ j → tgcell g i = tgcell (a.tg t) i) : (encM a).setIfInBounds (12 + t * 9 + j) v = encM { a with tg := upd a.tg t g } := by
  refine row_set _ _ _ _ _ fun i _ => ?_
  by_cases e : i = 12 + t * 9 + j
  · rw [if_pos e, e, macell_t _ _ _ hj]
    show tgcell (upd a.tg t g t) j = v
    rw [upd_same, hv]
  · rw [if_neg e]
    by_cases h12 : i < 12
    · unfold macell
      by_cases h3 : i < 3
      · rw [if_pos h3, if_pos h3]
      rw [if_neg h3, if_neg h3]
      by_cases h6 : i < 6
      · rw [if_pos h6, if_pos h6]
      rw [if_neg h6, if_neg h6]
      by_cases h9 : i < 9
      · rw [if_pos h9, if_pos h9]
      rw [if_neg h9, if_neg h9, if_pos h12, if_pos h12]
    · have hi : i = 12 + (i - 12) / 9 * 9 + (i - 12) % 9 := by omega
      rw [hi, macell_t _ _ _ (by omega), macell_t _ _ _ (by omega)]
      show tgcell (upd a.tg t g ((i - 12) / 9)) ((i - 12) % 9) = _
      by_cases e2 : (i - 12) / 9 = t
      · rw [e2, upd_same]
        exact ho _ (by omega) (fun e3 => e (by omega))
      · rw [upd_ne _ _ _ _ e2]
section
variable (a : MA)
theorem mg_q (k : Nat) (hk : k < 3) : (encM a)[k]? = some ((a.q k)) := by
  rw [encM, row_get _ _ _ (by omega)]
  unfold macell
  rw [if_pos (by omega)]
theorem ms_q (k : Nat) (hk : k < 3) (v : Value) : (encM a).setIfInBounds (k) (v) = encM { a with q := upd a.q k v } := by
  refine row_set _ _ _ _ _ fun i _ => ?_
  unfold macell
  by_cases h3 : i < 3
  · simp only [if_pos h3]
    by_cases e : i = k
    · rw [if_pos e]
      show (upd a.q k v i) = _
      rw [show i = k by omega, upd_same]
    · rw [if_neg e]
      show (upd a.q k v i) = _
      rw [upd_ne _ _ _ _ (by omega)]
  simp only [if_neg h3]
  by_cases h6 : i < 6
  · simp only [if_pos h6]
    rw [if_neg (show ¬ i = k by omega)]
  simp only [if_neg h6]
  by_cases h9 : i < 9
  · simp only [if_pos h9]
    rw [if_neg (show ¬ i = k by omega)]
  simp only [if_neg h9]
  by_cases h12 : i < 12
  · simp only [if_pos h12]
    rw [if_neg (show ¬ i = k by omega)]
  simp only [if_neg h12]
  rw [if_neg (show ¬ i = k by omega)]
theorem mg_ac (k : Nat) (hk : k < 3) : (encM a)[3 + k]? = some (.int .u32 (a.ac k)) := by
  rw [encM, row_get _ _ _ (by omega)]
  unfold macell
  rw [if_neg (by omega), if_pos (by omega), show 3 + k - 3 = k by omega]
theorem ms_ac (k : Nat) (hk : k < 3) (v : Int) : (encM a).setIfInBounds (3 + k) (.int .u32 v) = encM { a with ac := upd a.ac k v } := by
  refine row_set _ _ _ _ _ fun i _ => ?_
  unfold macell
  by_cases h3 : i < 3
  · simp only [if_pos h3]
    rw [if_neg (show ¬ i = 3 + k by omega)]
  simp only [if_neg h3]
  by_cases h6 : i < 6
  · simp only [if_pos h6]
    by_cases e : i = 3 + k
    · rw [if_pos e]
      show Value.int .u32 (upd a.ac k v (i - 3)) = _
      rw [show (i - 3) = k by omega, upd_same]
    · rw [if_neg e]
      show Value.int .u32 (upd a.ac k v (i - 3)) = _
      rw [upd_ne _ _ _ _ (by omega)]
  simp only [if_neg h6]
  by_cases h9 : i < 9
  · simp only [if_pos h9]
    rw [if_neg (show ¬ i = 3 + k by omega)]
  simp only [if_neg h9]
  by_cases h12 : i < 12
  · simp only [if_pos h12]
    rw [if_neg (show ¬ i = 3 + k by omega)]
  simp only [if_neg h12]
  rw [if_neg (show ¬ i = 3 + k by omega)]
theorem mg_tk (k : Nat) (hk : k < 3) : (encM a)[6 + k]? = some (.bool (a.tk k)) := by
  rw [encM, row_get _ _ _ (by omega)]
  unfold macell
  rw [if_neg (by omega), if_neg (by omega), if_pos (by omega), show 6 + k - 6 = k by omega]
theorem ms_tk (k : Nat) (hk : k < 3) (v : Bool) : (encM a).setIfInBounds (6 + k) (.bool v) = encM { a with tk := upd a.tk k v } := by
  refine row_set _ _ _ _ _ fun i _ => ?_
  unfold macell
  by_cases h3 : i < 3
  · simp only [if_pos h3]
    rw [if_neg (show ¬ i = 6 + k by omega)]
  simp only [if_neg h3]
  by_cases h6 : i < 6
  · simp only [if_pos h6]
    rw [if_neg (show ¬ i = 6 + k by omega)]
  simp only [if_neg h6]
  by_cases h9 : i < 9
  · simp only [if_pos h9]
    by_cases e : i = 6 + k
    · rw [if_pos e]
      show Value.bool (upd a.tk k v (i - 6)) = _
      rw [show (i - 6) = k by omega, upd_same]
    · rw [if_neg e]
      show Value.bool (upd a.tk k v (i - 6)) = _
      rw [upd_ne _ _ _ _ (by omega)]
  simp only [if_neg h9]
  by_cases h12 : i < 12
  · simp only [if_pos h12]
    rw [if_neg (show ¬ i = 6 + k by omega)]
  simp only [if_neg h12]
  rw [if_neg (show ¬ i = 6 + k by omega)]
theorem mg_ba (k : Nat) (hk : k < 3) : (encM a)[9 + k]? = some (.bool (a.ba k)) := by
  rw [encM, row_get _ _ _ (by omega)]
  unfold macell
  rw [if_neg (by omega), if_neg (by omega), if_neg (by omega), if_pos (by omega), show 9 + k - 9 = k by omega]
theorem ms_ba (k : Nat) (hk : k < 3) (v : Bool) : (encM a).setIfInBounds (9 + k) (.bool v) = encM { a with ba := upd a.ba k v } := by
  refine row_set _ _ _ _ _ fun i _ => ?_
  unfold macell
  by_cases h3 : i < 3
  · simp only [if_pos h3]
    rw [if_neg (show ¬ i = 9 + k by omega)]
  simp only [if_neg h3]
  by_cases h6 : i < 6
  · simp only [if_pos h6]
    rw [if_neg (show ¬ i = 9 + k by omega)]
  simp only [if_neg h6]
  by_cases h9 : i < 9
  · simp only [if_pos h9]
    rw [if_neg (show ¬ i = 9 + k by omega)]
  simp only [if_neg h9]
  by_cases h12 : i < 12
  · simp only [if_pos h12]
    by_cases e : i = 9 + k
    · rw [if_pos e]
      show Value.bool (upd a.ba k v (i - 9)) = _
      rw [show (i - 9) = k by omega, upd_same]
    · rw [if_neg e]
      show Value.bool (upd a.ba k v (i - 9)) = _
      rw [upd_ne _ _ _ _ (by omega)]
  simp only [if_neg h12]
  rw [if_neg (show ¬ i = 9 + k by omega)]
theorem mg_wm (t : Nat) (ht : t < 7) : (encM a)[12 + t * 9]? = some (.map (some (a.tg t).wm)) := by
  rw [encM, row_get _ _ _ (by omega)]
  exact congrArg some (macell_t a t 0 (by omega))
theorem ms_wm (t : Nat) (v : Nat) : (encM a).setIfInBounds (12 + t * 9) (.map (some v)) = encM { a with tg := upd a.tg t { a.tg t with wm := v } } :=
  ms_row a t { a.tg t with wm := v } 0 (by omega) _ rfl (fun i hi hne => by
    obtain rfl | rfl | rfl | rfl | rfl | rfl | rfl | rfl | rfl : i = 0 ∨ i = 1 ∨ i = 2 ∨ i = 3 ∨ i = 4 ∨ i = 5 ∨ i = 6 ∨ i = 7 ∨ i = 8 := by omega
    all_goals first | rfl | exact absurd rfl hne)
theorem mg_pv (t : Nat) (ht : t < 7) : (encM a)[12 + t * 9 + 1]? = some ((a.tg t).pv) := by
  rw [encM, row_get _ _ _ (by omega)]
  exact congrArg some (macell_t a t 1 (by omega))
theorem ms_pv (t : Nat) (v : Value) : (encM a).setIfInBounds (12 + t * 9 + 1) (v) = encM { a with tg := upd a.tg t { a.tg t with pv := v } } :=
  ms_row a t { a.tg t with pv := v } 1 (by omega) _ rfl (fun i hi hne => by
    obtain rfl | rfl | rfl | rfl | rfl | rfl | rfl | rfl | rfl : i = 0 ∨ i = 1 ∨ i = 2 ∨ i = 3 ∨ i = 4 ∨ i = 5 ∨ i = 6 ∨ i = 7 ∨ i = 8 := by omega
    all_goals first | rfl | exact absurd rfl hne)
theorem mg_av (t : Nat) (ht : t < 7) : (encM a)[12 + t * 9 + 2]? = some ((a.tg t).av) := by
  rw [encM, row_get _ _ _ (by omega)]
  exact congrArg some (macell_t a t 2 (by omega))
theorem ms_av (t : Nat) (v : Value) : (encM a).setIfInBounds (12 + t * 9 + 2) (v) = encM { a with tg := upd a.tg t { a.tg t with av := v } } :=
  ms_row a t { a.tg t with av := v } 2 (by omega) _ rfl (fun i hi hne => by
    obtain rfl | rfl | rfl | rfl | rfl | rfl | rfl | rfl | rfl : i = 0 ∨ i = 1 ∨ i = 2 ∨ i = 3 ∨ i = 4 ∨ i = 5 ∨ i = 6 ∨ i = 7 ∨ i = 8 := by omega
    all_goals first | rfl | exact absurd rfl hne)
theorem mg_sv (t : Nat) (ht : t < 7) : (encM a)[12 + t * 9 + 3]? = some ((a.tg t).sv) := by
  rw [encM, row_get _ _ _ (by omega)]
  exact congrArg some (macell_t a t 3 (by omega))
theorem ms_sv (t : Nat) (v : Value) : (encM a).setIfInBounds (12 + t * 9 + 3) (v) = encM { a with tg := upd a.tg t { a.tg t with sv := v } } :=
  ms_row a t { a.tg t with sv := v } 3 (by omega) _ rfl (fun i hi hne => by
    obtain rfl | rfl | rfl | rfl | rfl | rfl | rfl | rfl | rfl : i = 0 ∨ i = 1 ∨ i = 2 ∨ i = 3 ∨ i = 4 ∨ i = 5 ∨ i = 6 ∨ i = 7 ∨ i = 8 := by omega
    all_goals first | rfl | exact absurd rfl hne)
theorem mg_lf (t : Nat) (ht : t < 7) : (encM a)[12 + t * 9 + 4]? = some (.int .u32 (a.tg t).lf) := by
  rw [encM, row_get _ _ _ (by omega)]
  exact congrArg some (macell_t a t 4 (by omega))
theorem ms_lf (t : Nat) (v : Int) : (encM a).setIfInBounds (12 + t * 9 + 4) (.int .u32 v) = encM { a with tg := upd a.tg t { a.tg t with lf := v } } :=
  ms_row a t { a.tg t with lf := v } 4 (by omega) _ rfl (fun i hi hne => by
    obtain rfl | rfl | rfl | rfl | rfl | rfl | rfl | rfl | rfl : i = 0 ∨ i = 1 ∨ i = 2 ∨ i = 3 ∨ i = 4 ∨ i = 5 ∨ i = 6 ∨ i = 7 ∨ i = 8 := by omega
    all_goals first | rfl | exact absurd rfl hne)
theorem mg_en (t : Nat) (ht : t < 7) : (encM a)[12 + t * 9 + 5]? = some (.int .u8 (a.tg t).en) := by
  rw [encM, row_get _ _ _ (by omega)]
  exact congrArg some (macell_t a t 5 (by omega))
theorem ms_en (t : Nat) (v : Int) : (encM a).setIfInBounds (12 + t * 9 + 5) (.int .u8 v) = encM { a with tg := upd a.tg t { a.tg t with en := v } } :=
  ms_row a t { a.tg t with en := v } 5 (by omega) _ rfl (fun i hi hne => by
    obtain rfl | rfl | rfl | rfl | rfl | rfl | rfl | rfl | rfl : i = 0 ∨ i = 1 ∨ i = 2 ∨ i = 3 ∨ i = 4 ∨ i = 5 ∨ i = 6 ∨ i = 7 ∨ i = 8 := by omega
    all_goals first | rfl | exact absurd rfl hne)
theorem mg_rd (t : Nat) (ht : t < 7) : (encM a)[12 + t * 9 + 6]? = some (.int .u32 (a.tg t).rd) := by
  rw [encM, row_get _ _ _ (by omega)]
  exact congrArg some (macell_t a t 6 (by omega))
theorem ms_rd (t : Nat) (v : Int) : (encM a).setIfInBounds (12 + t * 9 + 6) (.int .u32 v) = encM { a with tg := upd a.tg t { a.tg t with rd := v } } :=
  ms_row a t { a.tg t with rd := v } 6 (by omega) _ rfl (fun i hi hne => by
    obtain rfl | rfl | rfl | rfl | rfl | rfl | rfl | rfl | rfl : i = 0 ∨ i = 1 ∨ i = 2 ∨ i = 3 ∨ i = 4 ∨ i = 5 ∨ i = 6 ∨ i = 7 ∨ i = 8 := by omega
    all_goals first | rfl | exact absurd rfl hne)
theorem mg_tu (t : Nat) (ht : t < 7) : (encM a)[12 + t * 9 + 7]? = some (.int .i64 (a.tg t).tu) := by
  rw [encM, row_get _ _ _ (by omega)]
  exact congrArg some (macell_t a t 7 (by omega))
theorem ms_tu (t : Nat) (v : Int) : (encM a).setIfInBounds (12 + t * 9 + 7) (.int .i64 v) = encM { a with tg := upd a.tg t { a.tg t with tu := v } } :=
  ms_row a t { a.tg t with tu := v } 7 (by omega) _ rfl (fun i hi hne => by
    obtain rfl | rfl | rfl | rfl | rfl | rfl | rfl | rfl | rfl : i = 0 ∨ i = 1 ∨ i = 2 ∨ i = 3 ∨ i = 4 ∨ i = 5 ∨ i = 6 ∨ i = 7 ∨ i = 8 := by omega
    all_goals first | rfl | exact absurd rfl hne)
theorem mg_is (t : Nat) (ht : t < 7) : (encM a)[12 + t * 9 + 8]? = some (.bool (a.tg t).is) := by
  rw [encM, row_get _ _ _ (by omega)]
  exact congrArg some (macell_t a t 8 (by omega))
theorem ms_is (t : Nat) (v : Bool) : (encM a).setIfInBounds (12 + t * 9 + 8) (.bool v) = encM { a with tg := upd a.tg t { a.tg t with is := v } } :=
  ms_row a t { a.tg t with is := v } 8 (by omega) _ rfl (fun i hi hne => by
    obtain rfl | rfl | rfl | rfl | rfl | rfl | rfl | rfl | rfl : i = 0 ∨ i = 1 ∨ i = 2 ∨ i = 3 ∨ i = 4 ∨ i = 5 ∨ i = 6 ∨ i = 7 ∨ i = 8 := by omega
    all_goals first | rfl | exact absurd rfl hne)
theorem encM_size : (encM a).size = 75 := by simp [encM, row]
end
end Go.Proofs.Qxb6500750aDoor
