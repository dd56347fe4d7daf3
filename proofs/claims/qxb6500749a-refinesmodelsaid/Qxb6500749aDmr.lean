import Derived.Test.Qxb6500749aNwp
import Derived.Test.Qxb6500749aCrc
namespace Go.Proofs.Qxb6500749a
open Go.RowKit
/-! ### The frame of the DMA master's functions -/
structure DR (w w1 : World) (db bb cb ub mb : Nat) (fv lv0 gv0 lv gv : Value) (D : DD) (B : BD) (U : BusD) : Prop where
  fr : Fr (KP db bb cb ub mb gv0) w w1
  hp : Blk w1 db (dmaV bb ub D) 97
  br : BR w1 bb cb fv B
  u : UB w1 ub mb lv gv U
  lcb : cb < w.heap.size
  lub : ub < w.heap.size
  ldb : db < w.heap.size
  cl : ∀ k, lv0.ownBlock = some k → k ≠ cb
  lo : ∀ k, lv.ownBlock = some k → lv0.ownBlock = some k
  go : ∀ k, gv.ownBlock = some k → gv0.ownBlock = some k ∨ w.heap.size ≤ k
section
variable {w w1 w2 : World} {db bb cb ub mb : Nat} {fv lv0 gv0 lv gv : Value} {D : DD} {B : BD} {U : BusD}
theorem DR.below (h : DR w w1 db bb cb ub mb fv lv0 gv0 lv gv D B U) (k : Below w1.heap.size w1 w2) : DR w w2 db bb cb ub mb fv lv0 gv0 lv gv D B U :=
  ⟨h.fr.below (k.mono h.fr.size), (k.block _ h.hp.lt).trans h.hp, h.br.below k, h.u.below k, h.lcb, h.lub, h.ldb, h.cl, h.lo, h.go⟩
theorem DR.drew (h : DR w w1 db bb cb ub mb fv lv0 gv0 lv gv D B U) : DR w w1.drew db bb cb ub mb fv lv0 gv0 lv gv D B U := h.below ⟨rfl, rfl, rfl, Nat.le_refl _, fun _ _ => rfl⟩
theorem DR.tick (h : DR w w1 db bb cb ub mb fv lv0 gv0 lv gv D B U) {U' : BusD} (hu : UB w2 ub mb lv gv U') (f : Fr (· = ub) w1 w2) : DR w w2 db bb cb ub mb fv lv0 gv0 lv gv D B U' :=
  have nb : bb ≠ ub := h.br.blk.neT h.u.blk (by decide)
  have nc : cb ≠ ub := h.br.cel.neT h.u.blk (by decide)
  ⟨h.fr.trans' f fun b _ e => by subst e; exact .inr (.inr (.inr (.inl rfl))), h.hp.fr f (h.hp.neT h.u.blk (by decide)), ⟨h.br.blk.fr f nb, h.br.cel.fr f nc, h.br.sl.fr f fun b hb => h.u.blk.sl_ne (by decide) h.br.sl b hb, h.br.ok, h.br.len, h.br.now⟩, hu, h.lcb, h.lub, h.ldb, h.cl, h.lo, h.go⟩
theorem DR.core (h : DR w w1 db bb cb ub mb fv lv0 gv0 lv gv D B U) {B' : BD} (t : Tn w1 w2 cb B'.c) (e1 : B'.fs = B.fs) (e2 : B'.now = B.now) : DR w w2 db bb cb ub mb fv lv0 gv0 lv gv D B' U :=
  have f := Fr.of_tn t
  ⟨h.fr.trans' f fun b _ e => by subst e; exact .inr (.inr (.inl rfl)), h.hp.fr f (h.hp.neT h.br.cel (by decide)), h.br.tn t e1 e2,
    h.u.fr f (fun e => h.br.cel.neT h.u.blk (by decide) e.symm) (fun e => h.u.map.neB h.br.cel e) (fun b hb => h.cl b (h.lo b hb)) (fun b hb => h.br.cel.sl_ne (by decide) h.u.log b hb), h.lcb, h.lub, h.ldb, h.cl, h.lo, h.go⟩
theorem DR.iss (h : DR w w1 db bb cb ub mb fv lv0 gv0 lv gv D B U) {U' : BusD} {lv' gv' : Value} (hu : UB w2 ub mb lv' gv' U') (f : Fr (KI ub mb gv) w1 w2) (ho : ∀ k, lv'.ownBlock = some k → lv.ownBlock = some k) (hg : ∀ k, gv'.ownBlock = some k → gv.ownBlock = some k ∨ w1.heap.size ≤ k) :
    DR w w2 db bb cb ub mb fv lv0 gv0 lv' gv' D B U' := by
  have key : ∀ (b : Nat) (cs : Array Value) (T : TypeId), Blk w1 b cs T → T ≠ 79 → T ≠ 68 → ¬ KI ub mb gv b := by
    rintro b cs T hb h1 h2 (e | e | e)
    · exact hb.neT h.u.blk h1 e
    · exact h.u.map.neB hb e.symm
    · exact hb.sl_ne (fun q => h2 q.symm) h.u.log b e rfl
  have keyS : ∀ (v : Value) (T : TypeId) (es n : Nat) (xs : List Value), Sl w1 v T es n xs → T ≠ 79 → T ≠ 68 → ∀ b, v.ownBlock = some b → ¬ KI ub mb gv b := by
    rintro v T es n xs hs h1 h2 b hb (e | e | e)
    · exact h.u.blk.sl_ne h1 hs b hb e
    · exact Sl.ne_map h.u.map hs b hb e
    · exact Sl.ne_sl h2 hs h.u.log b hb e
  refine ⟨h.fr.trans' f fun b hb e => ?_, h.hp.fr f (key _ _ _ h.hp (by decide) (by decide)), ⟨h.br.blk.fr f (key _ _ _ h.br.blk (by decide) (by decide)), h.br.cel.fr f (key _ _ _ h.br.cel (by decide) (by decide)), h.br.sl.fr f (keyS _ _ _ _ _ h.br.sl (by decide) (by decide)), h.br.ok, h.br.len, h.br.now⟩, hu, h.lcb, h.lub, h.ldb, h.cl, fun k hk => h.lo k (ho k hk), fun k hk => ?_⟩
  · rcases e with e | e | e
    · exact .inr (.inr (.inr (.inl e)))
    · exact .inr (.inr (.inr (.inr (.inl e))))
    · rcases h.go b e with q | q
      · exact .inr (.inr (.inr (.inr (.inr q))))
      · omega
  · rcases hg k hk with q | q
    · exact h.go k q
    · exact .inr (Nat.le_trans h.fr.size q)
theorem DR.clock (h : DR w w1 db bb cb ub mb fv lv0 gv0 lv gv D B U) (hn : B.now < 4294967295) : DR w (put w1 bb (bV cb fv (B.now + 1)) 125) db bb cb ub mb fv lv0 gv0 lv gv D (nextB B) U := by
  have hb := h.br.blk
  have f : Fr (· = bb) w1 (put w1 bb (bV cb fv (B.now + 1)) 125) := (Fr.refl (· = bb) w1).put (fun _ => rfl) _ _
  have h9 := h.br.now
  exact ⟨h.fr.put (fun _ => .inr (.inl rfl)) _ _, h.hp.fr f (h.hp.neT hb (by decide)), ⟨Blk.put_same hb.lt, h.br.cel.fr f (h.br.cel.neT hb (by decide)), h.br.sl.fr f fun b hb' => hb.sl_ne (by decide) h.br.sl b hb', h.br.ok, h.br.len, ⟨by show 0 ≤ B.now + 1; omega, by show B.now + 1 < 4294967296; omega⟩⟩,
    h.u.fr f (h.u.blk.neT hb (by decide)) (fun e => h.u.map.neB hb e) (fun b q => hb.sl_ne (by decide) h.u.lat b q) (fun b q => hb.sl_ne (by decide) h.u.log b q), h.lcb, h.lub, h.ldb, h.cl, h.lo, h.go⟩
/-- The master's row laid anew. -/
theorem DR.row (h : DR w w1 db bb cb ub mb fv lv0 gv0 lv gv D B U) (D' : DD) : DR w (put w1 db (dmaV bb ub D') 97) db bb cb ub mb fv lv0 gv0 lv gv D' B U := by
  have hb := h.hp
  have f : Fr (· = db) w1 (put w1 db (dmaV bb ub D') 97) := (Fr.refl (· = db) w1).put (fun _ => rfl) _ _
  exact ⟨h.fr.put (fun _ => .inl rfl) _ _, Blk.put_same hb.lt, ⟨h.br.blk.fr f (h.br.blk.neT hb (by decide)), h.br.cel.fr f (h.br.cel.neT hb (by decide)), h.br.sl.fr f fun b hb' => hb.sl_ne (by decide) h.br.sl b hb', h.br.ok, h.br.len, h.br.now⟩,
    h.u.fr f (h.u.blk.neT hb (by decide)) (fun e => h.u.map.neB hb e) (fun b q => hb.sl_ne (by decide) h.u.lat b q) (fun b q => hb.sl_ne (by decide) h.u.log b q), h.lcb, h.lub, h.ldb, h.cl, h.lo, h.go⟩
/-- A call that turns the master's row alone, or its cells too. -/
theorem DR.sub (h : DR w w1 db bb cb ub mb fv lv0 gv0 lv gv D B U) {D' : DD} {B' : BD} (f : Fr (fun k => k = db ∨ k = cb) w1 w2) (hd : Blk w2 db (dmaV bb ub D') 97) (hb : BR w2 bb cb fv B') : DR w w2 db bb cb ub mb fv lv0 gv0 lv gv D' B' U := by
  have key : ∀ (b : Nat) (cs : Array Value) (T : TypeId), Blk w1 b cs T → T ≠ 97 → T ≠ 30 → ¬ (b = db ∨ b = cb) := by
    rintro b cs T hb h1 h2 (e | e)
    · exact hb.neT h.hp h1 e
    · exact hb.neT h.br.cel h2 e
  refine ⟨h.fr.trans' f fun b _ e => ?_, hd, hb, h.u.fr f (key _ _ _ h.u.blk (by decide) (by decide)) ?_ ?_ ?_, h.lcb, h.lub, h.ldb, h.cl, h.lo, h.go⟩
  · rcases e with e | e
    · exact .inl e
    · exact .inr (.inr (.inl e))
  · rintro (e | e)
    · exact h.u.map.neB h.hp e
    · exact h.u.map.neB h.br.cel e
  · rintro b hb (e | e)
    · exact h.hp.sl_ne (by decide) h.u.lat b hb e
    · exact h.cl b (h.lo b hb) e
  · rintro b hb (e | e)
    · exact h.hp.sl_ne (by decide) h.u.log b hb e
    · exact h.br.cel.sl_ne (by decide) h.u.log b hb e
end
theorem dr_start {w : World} {db bb cb ub mb : Nat} {fv lv gv : Value} {D : DD} {B : BD} {U : BusD} (hp : Blk w db (dmaV bb ub D) 97) (hb : BR w bb cb fv B) (hu : UB w ub mb lv gv U) (cl : ∀ k, lv.ownBlock = some k → k ≠ cb) : DR w w db bb cb ub mb fv lv gv lv gv D B U :=
  ⟨Fr.refl _ _, hp, hb, hu, hb.cel.lt, hu.blk.lt, hp.lt, cl, fun _ h => h, fun _ h => .inl h⟩
/-! ### The master's functions, plain -/
def absD (D : DD) (x : Int) : DD :=
  if D.ph = 0 then { D with fet := D.fet + 1, ph := if D.fet + 1 = 4 then 1 else 0 } else if D.ph = 1 then { D with buf := x, ph := 2 } else { D with ph := 1 }
def absB (D : DD) (B : BD) (x : Int) : BD :=
  if D.ph = 0 then B.set (49 + D.fet) x else if D.ph = 1 then B else (B.set 53 ((B.get 53 + 1) % 4294967296)).set 54 (((B.set 53 ((B.get 53 + 1) % 4294967296)).get 54 + 1) % 4294967296)
structure DD.Ok (D : DD) : Prop where
  st : 0 ≤ D.st ∧ D.st ≤ 5
  ph : D.ph = 0 ∨ D.ph = 1 ∨ D.ph = 2
  fet : D.fet ≤ 4
  fet0 : D.ph = 0 → D.fet < 4
  desc : W32 D.desc
  buf : W32 D.buf
structure RQ where
  ok : Bool
  w : Bool
  a : Int
  d : Int
def noRQ : RQ := ⟨false, false, 0, 0⟩
def badF (B : BD) : Bool := (crcF (B.get 49) (B.get 50) (B.get 51) != B.get 52) || decide (B.get 51 > 16)
def nexF (D : DD) (B : BD) : DD × RQ :=
  if D.ph = 0 then (D, ⟨true, false, (D.desc + 4 * (D.fet : Nat)) % 4294967296, 0⟩)
  else if badF B = true then ({ D with st := 3 }, noRQ)
  else if (B.get 53 != B.get 54) = true then ({ D with st := 5 }, noRQ)
  else if D.ph = 2 then (D, ⟨true, true, (B.get 50 + 4 * B.get 53) % 4294967296, D.buf⟩)
  else if B.get 53 < B.get 51 then (D, ⟨true, false, (B.get 49 + 4 * B.get 53) % 4294967296, 0⟩)
  else ({ D with st := 2 }, noRQ)
end Go.Proofs.Qxb6500749a
