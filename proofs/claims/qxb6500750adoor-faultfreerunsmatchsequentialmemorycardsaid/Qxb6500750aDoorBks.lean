import Derived.Test.Qxb6500750aDoorOnG
import Derived.Test.Qxb6500750aDoorOnI4
namespace Go.Proofs.Qxb6500750aDoor
open Go.RowKit
/-! ### The books whole: the audit's block, its map, its flights -/
structure BK where
  a : AU
  γ : Int → Int → Option Nat
  fl : Nat → Option FL
structure BRep (ab : Nat) (w : World) (B : BK) : Prop where
  blk : Blk w ab (encA B.a) 82
  map : FMap w B.a.fm B.γ
  fl : ∀ b f, B.fl b = some f → Blk w b (encF f) 156
/-- What one call may have turned. -/
structure Frm (ab fm : Nat) (D : Nat → Prop) (w w' : World) : Prop where
  os : w'.os = w.os
  tape : w'.tape = w.tape
  output : w'.output = w.output
  size : w.heap.size ≤ w'.heap.size
  block : ∀ k, k < w.heap.size → k ≠ ab → k ≠ fm → ¬ D k → w'.heap[k]? = w.heap[k]?
theorem Frm.refl (ab fm : Nat) (D : Nat → Prop) (w : World) : Frm ab fm D w w := ⟨rfl, rfl, rfl, Nat.le_refl _, fun _ _ _ _ _ => rfl⟩
theorem Frm.trans {ab fm : Nat} {D D' : Nat → Prop} {w w1 w2 : World} (h : Frm ab fm D w w1) (k : Frm ab fm D' w1 w2) (hd : ∀ b, b < w.heap.size → D' b → D b) : Frm ab fm D w w2 :=
  ⟨k.os.trans h.os, k.tape.trans h.tape, k.output.trans h.output, Nat.le_trans h.size k.size, fun b hb h1 h2 h3 => (k.block b (Nat.lt_of_lt_of_le hb h.size) h1 h2 (fun hh => h3 (hd b hb hh))).trans (h.block b hb h1 h2 h3)⟩
theorem Frm.of_below {ab fm : Nat} {D : Nat → Prop} {w w' : World} (h : Below w.heap.size w w') : Frm ab fm D w w' := ⟨h.os, h.tape, h.output, h.size, fun k hk _ _ _ => h.block k hk⟩
theorem Frm.put {ab fm : Nat} {D : Nat → Prop} {w : World} (b : Nat) (cs : Array Value) (T : TypeId) (hb : b = ab ∨ D b) : Frm ab fm D w (put w b cs T) :=
  ⟨rfl, rfl, rfl, by rw [put_size]; exact Nat.le_refl _, fun k _ h1 _ h3 => put_heap_ne _ _ _ _ _ (fun e => by
    subst e; rcases hb with rfl | hb
    · exact h1 rfl
    · exact h3 hb)⟩
theorem Blk.ne_of_T {w : World} {b b' : Nat} {cs cs' : Array Value} {T T' : TypeId} (h : Blk w b cs T) (h' : Blk w b' cs' T') (hT : T ≠ T') : b ≠ b' := by
  rintro rfl
  unfold Blk at h h'
  rw [h] at h'
  cases h'
  exact hT rfl
theorem FMap.ne_blk {w : World} {b b' : Nat} {g : Int → Int → Option Nat} {cs : Array Value} {T : TypeId} (h : FMap w b g) (h' : Blk w b' cs T) : b' ≠ b := by
  rintro rfl
  obtain ⟨es, c, hb, _⟩ := h.out
  unfold Blk at h'
  rw [hb] at h'
  cases h'
theorem FMap.ne_sl {w : World} {b : Nat} {g : Int → Int → Option Nat} {v : Value} {T : TypeId} {es n : Nat} {xs : List Value} (h : FMap w b g) (hs : Sl w v T es n xs) : ∀ k, v.ownBlock = some k → k ≠ b := by
  intro k hk
  rcases hs.2 with ⟨rfl, _⟩ | ⟨b', off, cap, cs', rfl, hbk, _⟩
  · simp [Value.ownBlock] at hk
  · simp [Value.ownBlock] at hk
    subst hk
    exact h.ne_blk hbk
/-- The books beside the rig that they are kept of. -/
structure Base (ab xb : Nat) (pbs : Nat → Nat) (w : World) (B : BK) (acc : Nat → List Req) (p : Nat → PS) : Prop where
  bk : BRep ab w B
  rig : Blk w B.a.rg (encG (.pointer (some ⟨xb, 0, none⟩)) (lk pbs)) 49
  link : ∀ s, s < 6 → ∃ L : PL, L.pb = pbs s ∧ Blk w L.pb (pcells L (p s)) 113 ∧ Sl w L.av 59 7 (p s).atts.length ((p s).atts.flatMap attRow)
  av : ∀ m, m < 3 → Sl w (B.a.av m) 91 3 (acc m).length ((acc m).flatMap reqRow)
theorem Base.same {ab xb fm : Nat} {pbs : Nat → Nat} {w w' : World} {B B' : BK} {acc : Nat → List Req} {p : Nat → PS} (h : Base ab xb pbs w B acc p) (hf : Frm ab fm (fun k => B.fl k ≠ none) w w') (hm : B.a.fm = fm) (hb : BRep ab w' B') (e1 : B'.a.rg = B.a.rg) (e2 : B'.a.av = B.a.av) : Base ab xb pbs w' B' acc p := by
  subst hm
  have hk : ∀ b cs T, Blk w b cs T → T ≠ 82 → T ≠ 156 → w'.heap[b]? = w.heap[b]? := fun b cs T hB h1 h2 =>
    hf.block b hB.lt (hB.ne_of_T h.bk.blk h1) (h.bk.map.ne_blk hB) (fun hn => by
      cases hfl : B.fl b with
      | none => exact hn hfl
      | some f => exact (hB.ne_of_T (h.bk.fl b f hfl) h2) rfl)
  have hsl : ∀ v T es n xs, Sl w v T es n xs → T ≠ 82 → T ≠ 156 → Sl w' v T es n xs := fun v T es n xs hs h1 h2 => hs.same fun k hk' => by
    rcases hs.2 with ⟨rfl, _⟩ | ⟨b', off, cap, cs', rfl, hbk, _⟩
    · simp [Value.ownBlock] at hk'
    · simp [Value.ownBlock] at hk'
      subst hk'
      exact hk _ _ _ hbk h1 h2
  refine ⟨hb, ?_, fun s hs => ?_, fun m hm => ?_⟩
  · rw [e1]; exact (hk _ _ _ h.rig (by decide) (by decide)).trans h.rig
  · obtain ⟨L, h1, h2, h3⟩ := h.link s hs
    exact ⟨L, h1, (hk _ _ _ h2 (by decide) (by decide)).trans h2, hsl _ _ _ _ _ h3 (by decide) (by decide)⟩
  · rw [e2]; exact hsl _ _ _ _ _ (h.av m hm) (by decide) (by decide)
/-! ### What one round of onTick does to the books -/
def ptN : Value → Nat
  | .pointer (some ad) => ad.block
  | _ => 0
def lastA (q : PS) : Att := q.atts.getLast?.getD ⟨⟨0, false, 0, 0⟩, ⟨0, 0⟩, false⟩
def setFl (B : BK) (b : Nat) (f : FL) : BK := { B with fl := upd B.fl b (some f) }
/-- A sending repeated, or given up: the flight at t. -/
def midT (ρ : RepD) (p : Nat → PS) (t : Nat) (B : BK) : BK :=
  match B.fl (ptN (B.a.pt t)) with
  | none => B
  | some f => if ρ.rs t = true then setFl B (ptN (B.a.pt t)) (noted f (some (lastA (p t)))) else if ρ.rp t = true then setFl B (ptN (B.a.pt t)) { f with rep := true } else B
def flight0 (g : Nat) (r : Req) (t : Nat) : FL := ⟨(g : Nat), r.w, (t : Nat), 0, 0, 0, false⟩
def noteT (p : Nat → PS) (t : Nat) (f : FL) : FL := noted f (if t < 6 then some (lastA (p t)) else none)
/-- A grant: the new flight at block nb. -/
def grT (ρ : RepD) (p : Nat → PS) (acc : Nat → List Req) (t nb : Nat) (B : BK) : BK :=
  if ρ.g t = -1 then B else
    let g := (ρ.g t).toNat
    let q := (B.a.gr g).toNat
    { a := { B.a with gr := upd B.a.gr g ((q : Nat) + 1), turn := upd B.a.turn t (((g : Nat) + 1) % 3), pt := upd B.a.pt t (.pointer (some ⟨nb, 0, none⟩)) },
      γ := gset B.γ (g : Nat) (q : Nat) (some nb), fl := upd B.fl nb (some (noteT p t (flight0 g ((acc g)[q]?.getD ⟨false, 0, 0⟩) t))) }
def roundT (ρ : RepD) (p : Nat → PS) (acc : Nat → List Req) (t nb : Nat) (B : BK) : BK := grT ρ p acc t nb (midT ρ p t B)
def due (ρ : RepD) (t : Nat) : Int := (if ρ.rs t = true then 1 else 0) + (if ρ.g t = -1 then 0 else 1)
structure AllOn (a : AU) : Prop where
  f0 : a.f0 = true
  f1 : a.f1 = true
  f2 : a.f2 = true
  f3 : a.f3 = true
/-- What the round at t asks of the books. -/
structure RoundOK (ρ : RepD) (p : Nat → PS) (acc : Nat → List Req) (W : Nat → Nat → Bool) (pk : Int) (seen : Nat → Int) (t : Nat) (B : BK) : Prop where
  on : AllOn B.a
  len : t < 6 → ((p t).atts.length : Int) - seen t = due ρ t ∧ due ρ t ≤ 1 ∧ (B.a.cut t = true → due ρ t = 0) ∧ (p t).atts.length < 1000000000 ∧ 0 ≤ seen t
  rs : ρ.rs t = true → t < 6 ∧ ρ.rp t = false ∧ ρ.g t = -1 ∧ (p t).atts ≠ [] ∧ planOK (lastA (p t)).p ∧ ∃ b f, B.a.pt t = .pointer (some ⟨b, 0, none⟩) ∧ B.fl b = some f ∧ f.t = (t : Nat) ∧ repB f = true ∧ (∃ m : Nat, m < 3 ∧ f.m = (m : Nat) ∧ B.a.ba m = false) ∧ (0 ≤ f.n ∧ f.n ≤ 3) ∧ (0 ≤ f.ac ∧ f.ac < 1000) ∧ (f.w = true → (noted f (some (lastA (p t)))).ac ≤ 1)
  rp : ρ.rp t = true → t < 6 ∧ ρ.rs t = false ∧ ∃ b f, B.a.pt t = .pointer (some ⟨b, 0, none⟩) ∧ B.fl b = some f ∧ (∃ m : Nat, m < 3 ∧ f.m = (m : Nat) ∧ (repB f = true → f.n ≤ 3 → B.a.cut t = false → B.a.ba m = true)) ∧ f.la ≠ 0 ∧ f.la ≠ 1
  gr : ρ.g t = -1 ∨ ∃ g q turn : Nat, ∃ r, ρ.g t = (g : Nat) ∧ g < 3 ∧ turn < 3 ∧ wv (W t) ≠ 0 ∧ cho (W t) (pickAt pk t) turn = g ∧ B.a.turn t = (turn : Nat) ∧ B.a.ba g = false ∧ B.a.gr g = (q : Nat) ∧ (acc g)[q]? = some r ∧ (acc g).length < 4000000 ∧ B.γ (g : Nat) (q : Nat) = none ∧
    (t < 6 → (p t).atts ≠ [] ∧ planOK (lastA (p t)).p ∧ (lastA (p t)).r = ⟨lid (g : Nat) (q : Nat), r.w, r.ad, r.da⟩)
  idle : ρ.g t = -1 → wv (W t) = 0 ∨ (t < 6 ∧ (p t).busy = true)
theorem lastA_some {q : PS} (h : q.atts ≠ []) : q.atts.getLast? = some (lastA q) := by
  unfold lastA
  rw [List.getLast?_eq_some_getLast h]
  rfl
end Go.Proofs.Qxb6500750aDoor
