import Derived.Test.Qxb6500750aDoorFiw
import Derived.Test.Qxb6500750aDoorFfr
import Derived.Test.Qxb6500750aDoorOnI4
import Derived.Test.Qxb6500750aDoorQt
import Derived.Test.Qxb6500750aDoorReg2
namespace Go.Proofs.Qxb6500750aDoor
open Go.RowKit
/-! ### The law without faults: her variables in the world -/
def retL (r : Ret) : List Value := [.bool r.va, .int .u32 r.sq, .int .u8 r.st, .int .u32 r.da, .int .u8 r.re, .int .u8 r.ca]
theorem rets_len (xs : List Ret) : (xs.flatMap retL).length = xs.length * 6 := by
  induction xs with
  | nil => rfl
  | cons x xs ih => simp only [List.flatMap_cons, List.length_append, ih, List.length_cons]; show 6 + _ = _; omega
theorem rets_get (xs : List Ret) (i j : Nat) (r : Ret) (hi : xs[i]? = some r) (hj : j < 6) : (xs.flatMap retL)[i * 6 + j]? = (retL r)[j]? := by
  induction xs generalizing i with
  | nil => cases hi
  | cons x xs ih =>
    rw [List.flatMap_cons]
    have hl : (retL x).length = 6 := rfl
    cases i with
    | zero =>
      simp only [List.getElem?_cons_zero, Option.some.injEq] at hi
      subst hi
      rw [List.getElem?_append_left (by rw [hl]; omega)]
      simp
    | succ i =>
      rw [List.getElem?_append_right (by rw [hl]; omega), hl]
      have : (i + 1) * 6 + j - 6 = i * 6 + j := by omega
      rw [this]
      exact ih i (by simpa using hi)
structure FB where
  rb : Nat
  mb : Nat
  ab : Nat
  eb : Nat
  tb : Nat
  mm : Nat
  rg : Nat
  xb : Nat
  pbs : Nat → Nat
def rtRow (σ : SS) : Array Value := row 3 fun m => .int .i64 (σ.x.mp m).rt
structure FI (own : Nat → Nat) (w : World) (L : FB) (av ev : Nat → Value) (σ : SS) (rt : Nat → Int) (acc : Nat → List Req) (exp : Nat → List Ret) (mem : Int → Int) : Prop where
  rr : RRep own w L.rg L.xb L.pbs σ
  glb : Glb own w
  rb : Blk w L.rb #[.pointer (some ⟨L.rg, 0, none⟩)] 24
  mb : Blk w L.mb #[.map (some L.mm)] 87
  ab : Blk w L.ab (row 3 av) 73
  eb : Blk w L.eb (row 3 ev) 89
  tb : Blk w L.tb (row 3 fun m => .int .i64 (rt m)) 74
  mm : KMap w L.mm mem
  sa : ∀ m, m < 3 → Sl w (av m) 91 3 (acc m).length ((acc m).flatMap reqRow)
  se : ∀ m, m < 3 → Sl w (ev m) 38 6 (exp m).length ((exp m).flatMap retL)
  adr : ∀ m, m < 3 → ∀ r ∈ acc m, 0 ≤ r.ad ∧ r.ad < 4294967296
  orb : own L.rb = 8
  omb : own L.mb = 8
  oab : own L.ab = 10
  oeb : own L.eb = 20
  otb : own L.tb = 16
  omm : own L.mm = 14
  oav : ∀ m, m < 3 → ∀ k, (av m).ownBlock = some k → own k = 11 + m
  oev : ∀ m, m < 3 → ∀ k, (ev m).ownBlock = some k → own k = 21 + m
/-- What the law's step may turn. -/
def SF (k : Nat) : Prop := k ≤ 6 ∨ (10 ≤ k ∧ k ≤ 23) ∨ k = 49
theorem FI.moved {own own' : Nat → Nat} {S : Nat → Prop} {w w' : World} {L : FB} {av ev : Nat → Value} {σ σ' : SS} {rt : Nat → Int} {acc : Nat → List Req} {exp : Nat → List Ret} {mem : Int → Int} (h : FI own w L av ev σ rt acc exp mem) (hx : Ext own own' S w w') (hs : ∀ k, 8 ≤ k → k ≤ 23 → ¬ S k) (hr : RRep own' w' L.rg L.xb L.pbs σ') : FI own' w' L av ev σ' rt acc exp mem where
  rr := hr
  glb := h.glb.ext hx (hs 9 (by omega) (by omega))
  rb := h.rb.ext hx (by rw [h.orb]; exact hs 8 (by omega) (by omega))
  mb := h.mb.ext hx (by rw [h.omb]; exact hs 8 (by omega) (by omega))
  ab := h.ab.ext hx (by rw [h.oab]; exact hs 10 (by omega) (by omega))
  eb := h.eb.ext hx (by rw [h.oeb]; exact hs 20 (by omega) (by omega))
  tb := h.tb.ext hx (by rw [h.otb]; exact hs 16 (by omega) (by omega))
  mm := h.mm.same (hx.block _ h.mm.lt (by rw [h.omm]; exact hs 14 (by omega) (by omega)))
  sa := fun m hm => (h.sa m hm).same fun k hk => hx.block k ((h.sa m hm).lt k hk) (by rw [h.oav m hm k hk]; exact hs _ (by omega) (by omega))
  se := fun m hm => (h.se m hm).same fun k hk => hx.block k ((h.se m hm).lt k hk) (by rw [h.oev m hm k hk]; exact hs _ (by omega) (by omega))
  adr := h.adr
  orb := (hx.keep _ h.rb.lt).trans h.orb
  omb := (hx.keep _ h.mb.lt).trans h.omb
  oab := (hx.keep _ h.ab.lt).trans h.oab
  oeb := (hx.keep _ h.eb.lt).trans h.oeb
  otb := (hx.keep _ h.tb.lt).trans h.otb
  omm := (hx.keep _ h.mm.lt).trans h.omm
  oav := fun m hm k hk => (hx.keep k ((h.sa m hm).lt k hk)).trans (h.oav m hm k hk)
  oev := fun m hm k hk => (hx.keep k ((h.se m hm).lt k hk)).trans (h.oev m hm k hk)
theorem FI.ext {own own' : Nat → Nat} {S : Nat → Prop} {w w' : World} {L : FB} {av ev : Nat → Value} {σ : SS} {rt : Nat → Int} {acc : Nat → List Req} {exp : Nat → List Ret} {mem : Int → Int} (h : FI own w L av ev σ rt acc exp mem) (hx : Ext own own' S w w') (hs : ∀ k, k ≤ 23 → ¬ S k) : FI own' w' L av ev σ rt acc exp mem :=
  h.moved hx (fun k _ hk => hs k hk) (h.rr.ext hx (fun k hk => hs k (by omega)))
theorem FI.below {own : Nat → Nat} {w w' : World} {L : FB} {av ev : Nat → Value} {σ : SS} {rt : Nat → Int} {acc : Nat → List Req} {exp : Nat → List Ret} {mem : Int → Int} (h : FI own w L av ev σ rt acc exp mem) (hb : Below w.heap.size w w') : FI own w' L av ev σ rt acc exp mem :=
  h.ext (Ext.of_below (S := fun _ => False) hb) (fun _ _ h => h)
def fr28 (L : FB) (o : OpD) (n qb : Nat) (u : Nat → Value) : Act :=
  { tmps := #[.agg #[.int .u8 o.k, .int .u32 o.a, .int .u32 o.b, .int .u32 o.c], .pointer (some ⟨L.rb, 0, none⟩), .pointer (some ⟨L.ab, 0, none⟩), .pointer (some ⟨L.eb, 0, none⟩), .pointer (some ⟨L.mb, 0, none⟩), .pointer (some ⟨L.tb, 0, none⟩), .pointer (some ⟨n, 0, none⟩), .bool false, .pointer (some ⟨qb, 0, none⟩), u 9, u 10, u 11, u 12, u 13, u 14, u 15, u 16, u 17, u 18, u 19, u 20, u 21, u 22, u 23, u 24, u 25, u 26, u 27, u 28, u 29, u 30, u 31, u 32, u 33, u 34, u 35, u 36, u 37, u 38, u 39, u 40, u 41, u 42, u 43, u 44, u 45, u 46, u 47, u 48, u 49, u 50, u 51, u 52, u 53, u 54, u 55, u 56, u 57, u 58, u 59, u 60, u 61, u 62, u 63, u 64, u 65, u 66, u 67, u 68, u 69, u 70, u 71, u 72, u 73, u 74, u 75, u 76, u 77, u 78, u 79, u 80, u 81, u 82, u 83, u 84, u 85, u 86, u 87, u 88, u 89, u 90, u 91, u 92, u 93, u 94, u 95, u 96, u 97, u 98, u 99, u 100, u 101, u 102, u 103, u 104, u 105, u 106, u 107, u 108, u 109, u 110, u 111, u 112, u 113, u 114, u 115, u 116, u 117, u 118, u 119, u 120, u 121, u 122, u 123, u 124, u 125, u 126, u 127, u 128, u 129, u 130, u 131, u 132, u 133, u 134, u 135, u 136, u 137, u 138, u 139, u 140, u 141, u 142, u 143, u 144, u 145, u 146, u 147, u 148, u 149, u 150, u 151, u 152, u 153, u 154, u 155, u 156, u 157], defers := [] }
end Go.Proofs.Qxb6500750aDoor
