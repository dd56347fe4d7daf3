import Derived.Test.Qxb6500750aDoorMac
import Derived.Test.Qxb6500750aDoorSumF

namespace Go.Proofs.Qxb6500750aDoor
open Go.RowKit
/-! ### The abstract machine beside the crossbar -/
theorem Blk.neT {w : World} {b b' : Nat} {cs cs' : Array Value} {T T' : TypeId} (h : Blk w b cs T) (h' : Blk w b' cs' T') (hT : T ≠ T') : b ≠ b' := by
  rintro rfl
  unfold Blk at h h'
  rw [h] at h'
  cases h'
  exact hT rfl
/-- A transaction of the machine, as data. -/
structure TX where
  m : Int
  q : Int
  rq : Req
  gr : Bool
  dn : Bool
  dr : Bool
  an : Ret
def txcell (x : TX) : Nat → Value
  | 0 => .int .i64 x.m
  | 1 => .int .u32 x.q
  | 2 => .bool x.rq.w
  | 3 => .int .u32 x.rq.ad
  | 4 => .int .u32 x.rq.da
  | 5 => .bool x.gr
  | 6 => .bool x.dn
  | 7 => .bool x.dr
  | 8 => .bool x.an.va
  | 9 => .int .u32 x.an.sq
  | 10 => .int .u8 x.an.st
  | 11 => .int .u32 x.an.da
  | 12 => .int .u8 x.an.re
  | _ => .int .u8 x.an.ca
def encT (x : TX) : Array Value := row 14 (txcell x)
section
variable (x : TX)
theorem tg_0 : (encT x)[0]? = some (.int .i64 x.m) := row_get _ _ _ (by decide)
theorem tg_1 : (encT x)[1]? = some (.int .u32 x.q) := row_get _ _ _ (by decide)
theorem tg_2 : (encT x)[2]? = some (.bool x.rq.w) := row_get _ _ _ (by decide)
theorem tg_3 : (encT x)[3]? = some (.int .u32 x.rq.ad) := row_get _ _ _ (by decide)
theorem tg_4 : (encT x)[4]? = some (.int .u32 x.rq.da) := row_get _ _ _ (by decide)
theorem tg_5 : (encT x)[5]? = some (.bool x.gr) := row_get _ _ _ (by decide)
theorem tg_6 : (encT x)[6]? = some (.bool x.dn) := row_get _ _ _ (by decide)
theorem tg_7 : (encT x)[7]? = some (.bool x.dr) := row_get _ _ _ (by decide)
theorem tg_8 : (encT x)[8]? = some (.bool x.an.va) := row_get _ _ _ (by decide)
theorem tg_9 : (encT x)[9]? = some (.int .u32 x.an.sq) := row_get _ _ _ (by decide)
theorem tg_10 : (encT x)[10]? = some (.int .u8 x.an.st) := row_get _ _ _ (by decide)
theorem tg_11 : (encT x)[11]? = some (.int .u32 x.an.da) := row_get _ _ _ (by decide)
theorem tg_12 : (encT x)[12]? = some (.int .u8 x.an.re) := row_get _ _ _ (by decide)
theorem tg_13 : (encT x)[13]? = some (.int .u8 x.an.ca) := row_get _ _ _ (by decide)
theorem tset (y : TX) (j : Nat) (v : Value) (hv : txcell y j = v) (ho : ∀ i, i < 14 → i ≠ j → txcell y i = txcell x i) : (encT x).setIfInBounds j v = encT y :=
  row_set _ _ _ _ _ fun i hi => by
    by_cases e : i = j
    · rw [if_pos e, e, hv]
    · rw [if_neg e]; exact ho i hi e
theorem places14 {i : Nat} (hi : i < 14) : i = 0 ∨ i = 1 ∨ i = 2 ∨ i = 3 ∨ i = 4 ∨ i = 5 ∨ i = 6 ∨ i = 7 ∨ i = 8 ∨ i = 9 ∨ i = 10 ∨ i = 11 ∨ i = 12 ∨ i = 13 := by omega
theorem ts_5 (v : Bool) : (encT x).setIfInBounds 5 (.bool v) = encT { x with gr := v } := tset x _ 5 _ rfl fun i hi hne => by
  rcases places14 hi with rfl | rfl | rfl | rfl | rfl | rfl | rfl | rfl | rfl | rfl | rfl | rfl | rfl | rfl <;> first | rfl | exact absurd rfl hne
theorem ts_6 (v : Bool) : (encT x).setIfInBounds 6 (.bool v) = encT { x with dn := v } := tset x _ 6 _ rfl fun i hi hne => by
  rcases places14 hi with rfl | rfl | rfl | rfl | rfl | rfl | rfl | rfl | rfl | rfl | rfl | rfl | rfl | rfl <;> first | rfl | exact absurd rfl hne
theorem ts_7 (v : Bool) : (encT x).setIfInBounds 7 (.bool v) = encT { x with dr := v } := tset x _ 7 _ rfl fun i hi hne => by
  rcases places14 hi with rfl | rfl | rfl | rfl | rfl | rfl | rfl | rfl | rfl | rfl | rfl | rfl | rfl | rfl <;> first | rfl | exact absurd rfl hne
theorem ts_10 (v : Int) : (encT x).setIfInBounds 10 (.int .u8 v) = encT { x with an := { x.an with st := v } } := tset x _ 10 _ rfl fun i hi hne => by
  rcases places14 hi with rfl | rfl | rfl | rfl | rfl | rfl | rfl | rfl | rfl | rfl | rfl | rfl | rfl | rfl <;> first | rfl | exact absurd rfl hne
theorem ts_11 (v : Int) : (encT x).setIfInBounds 11 (.int .u32 v) = encT { x with an := { x.an with da := v } } := tset x _ 11 _ rfl fun i hi hne => by
  rcases places14 hi with rfl | rfl | rfl | rfl | rfl | rfl | rfl | rfl | rfl | rfl | rfl | rfl | rfl | rfl <;> first | rfl | exact absurd rfl hne
theorem ts_12 (v : Int) : (encT x).setIfInBounds 12 (.int .u8 v) = encT { x with an := { x.an with re := v } } := tset x _ 12 _ rfl fun i hi hne => by
  rcases places14 hi with rfl | rfl | rfl | rfl | rfl | rfl | rfl | rfl | rfl | rfl | rfl | rfl | rfl | rfl <;> first | rfl | exact absurd rfl hne
theorem ts_13 (v : Int) : (encT x).setIfInBounds 13 (.int .u8 v) = encT { x with an := { x.an with ca := v } } := tset x _ 13 _ rfl fun i hi hne => by
  rcases places14 hi with rfl | rfl | rfl | rfl | rfl | rfl | rfl | rfl | rfl | rfl | rfl | rfl | rfl | rfl <;> first | rfl | exact absurd rfl hne
end
/-- The transaction q of master m, as the crossbar's slot says it. -/
def txOf (x : XS) (m : Nat) (q : Int) : TX := ⟨(m : Nat), q, (slq x m q).req, decide (q < (x.mp m).gr), (slq x m q).ph == 2, false, (slq x m q).ret⟩
def lreqRow (r : LReq) : List Value := [.int .u8 r.id, .bool r.w, .int .u32 r.ad, .int .u32 r.da]
/-- The requests on which the slave has acted. -/
def acts (q : PS) : List LReq := (q.atts.filter (·.acted)).map (·.r)
/-- Pointers to the transactions under way. -/
def qrow (tb : Nat → Int → Nat) (m : Nat) (r : Int) (n : Nat) : List Value := (List.range n).map fun i => .pointer (some ⟨tb m (r + (i : Nat)), 0, none⟩)
/-- One target of the machine. -/
structure TGOK (w : World) (tb : Nat → Int → Nat) (σ : SS) (t : Nat) (g : TG) : Prop where
  words : MapB w g.wm (if t < 6 then (σ.p t).mem else fun _ => 0)
  plans : Sl w g.pv 57 2 (if t < 6 then (σ.p t).plans.length else 0) (if t < 6 then (σ.p t).plans.flatMap planRow else [])
  acted : Sl w g.av 54 4 (if t < 6 then (acts (σ.p t)).length else 0) (if t < 6 then (acts (σ.p t)).flatMap lreqRow else [])
  free : (σ.x.tp t).busy = false → g.sv = .pointer none
  live : flying σ.x t → g.sv = .pointer (some ⟨tb (mo σ.x t) (σ.x.tp t).sq, 0, none⟩)
  gone : (σ.x.tp t).busy = true → (σ.x.tp t).orph = true → ∃ b y, g.sv = .pointer (some ⟨b, 0, none⟩) ∧ Blk w b (encT y) 148 ∧ y.dr = true ∧ ∀ m q, m < 3 → (σ.x.mp m).rt ≤ q → q < (σ.x.mp m).iss → b ≠ tb m q
  left : (σ.x.tp t).busy = true → g.lf = (if t < 6 then (if (σ.p t).due = 0 then 64 else (σ.p t).due) - (σ.p t).wt else 1) ∧ g.en = (if t < 6 then (if (σ.p t).due = 0 then 4 else (σ.p t).rst) else 0) ∧ g.rd = (if t < 6 then (if (σ.p t).due = 0 then 0 else (σ.p t).rda) else 0)
  turn : g.tu = (σ.x.tp t).turn
  iso : g.is = (σ.x.tp t).iso
structure MR (own : Nat → Nat) (w : World) (mb : Nat) (M : MA) (tb : Nat → Int → Nat) (σ : SS) : Prop where
  blk : Blk w mb (encM M) 104
  queue : ∀ m, m < 3 → Sl w (M.q m) 99 1 ((σ.x.mp m).iss - (σ.x.mp m).rt).toNat (qrow tb m (σ.x.mp m).rt ((σ.x.mp m).iss - (σ.x.mp m).rt).toNat)
  tx : ∀ m, m < 3 → ∀ q, (σ.x.mp m).rt ≤ q → q < (σ.x.mp m).iss → Blk w (tb m q) (encT (txOf σ.x m q)) 148
  inj : ∀ m q m' q', m < 3 → m' < 3 → (σ.x.mp m).rt ≤ q → q < (σ.x.mp m).iss → (σ.x.mp m').rt ≤ q' → q' < (σ.x.mp m').iss → tb m q = tb m' q' → m = m' ∧ q = q'
  ac : ∀ m, m < 3 → M.ac m = (σ.x.mp m).iss
  tk : ∀ m, m < 3 → M.tk m = (σ.x.mp m).tk
  ba : ∀ m, m < 3 → M.ba m = (σ.x.mp m).iso
  tgt : ∀ t, t < 7 → TGOK w tb σ t (M.tg t)
  omb : own mb = 30
  oq : ∀ m, m < 3 → ∀ k, (M.q m).ownBlock = some k → own k = 31 + m
  otx : ∀ m, m < 3 → ∀ q, (σ.x.mp m).rt ≤ q → q < (σ.x.mp m).iss → own (tb m q) = 34
  ogn : ∀ t, t < 7 → (σ.x.tp t).busy = true → (σ.x.tp t).orph = true → ∀ b, (M.tg t).sv = .pointer (some ⟨b, 0, none⟩) → own b = 34
  owm : ∀ t, t < 7 → own (M.tg t).wm = 60 + t
  opl : ∀ t, t < 7 → ∀ k, (M.tg t).pv.ownBlock = some k → own k = 70 + t
  oac : ∀ t, t < 7 → ∀ k, (M.tg t).av.ownBlock = some k → own k = 80 + t
/-- Data that a flight brings is nought till it lands. -/
def Clean (x : XS) : Prop := (∀ t, t < 7 → flying x t → (slotOf x t).ret.da = 0) ∧ (∀ m, m < 3 → ∀ q, (x.mp m).gr ≤ q → q < (x.mp m).iss → (slq x m q).ret.da = 0)
end Go.Proofs.Qxb6500750aDoor
