import Derived.Test.Qxb6500749aMem
import Derived.Test.Qxb6500749aQt
import Derived.Test.Qxb6500749aReg2
import Derived.Test.Qxb6500749aWhole
import Derived.KernelRfl
import Derived.Deep.DeepCutAuto
import Derived.Deep.Draws
import Derived.Deep.CutBlock
import Derived.BigQuiet
namespace Go.Proofs.Qxb6500749a
open Go.RowKit
theorem hid_of {P : Prop} (h : P) : Hid P := h
/-! ### Whose is a block: each block bears a mark; a call turns blocks of its own marks alone -/
structure Ext (own own' : Nat → Nat) (S : Nat → Prop) (w w' : World) : Prop where
  os : w'.os = w.os
  tape : w'.tape = w.tape
  output : w'.output = w.output
  size : w.heap.size ≤ w'.heap.size
  keep : ∀ k, k < w.heap.size → own' k = own k
  block : ∀ k, k < w.heap.size → ¬ S (own k) → w'.heap[k]? = w.heap[k]?
theorem Ext.refl (own : Nat → Nat) (S : Nat → Prop) (w : World) : Ext own own S w w := ⟨rfl, rfl, rfl, Nat.le_refl _, fun _ _ => rfl, fun _ _ _ => rfl⟩
theorem Ext.trans {own own1 own2 : Nat → Nat} {S : Nat → Prop} {w w1 w2 : World} (h : Ext own own1 S w w1) (k : Ext own1 own2 S w1 w2) : Ext own own2 S w w2 :=
  ⟨k.os.trans h.os, k.tape.trans h.tape, k.output.trans h.output, Nat.le_trans h.size k.size, fun b hb => (k.keep b (Nat.lt_of_lt_of_le hb h.size)).trans (h.keep b hb),
    fun b hb hs => (k.block b (Nat.lt_of_lt_of_le hb h.size) (by rw [h.keep b hb]; exact hs)).trans (h.block b hb hs)⟩
theorem Ext.mono {own own' : Nat → Nat} {S S' : Nat → Prop} {w w' : World} (h : Ext own own' S w w') (hs : ∀ k, S k → S' k) : Ext own own' S' w w' :=
  ⟨h.os, h.tape, h.output, h.size, h.keep, fun k hk hn => h.block k hk (fun hh => hn (hs _ hh))⟩
theorem Ext.of_below {own : Nat → Nat} {S : Nat → Prop} {w w' : World} (h : Below w.heap.size w w') : Ext own own S w w' :=
  ⟨h.os, h.tape, h.output, h.size, fun _ _ => rfl, fun k hk _ => h.block k hk⟩
/-- The marks, with every block from B on marked g. -/
def mark (own : Nat → Nat) (B g : Nat) : Nat → Nat := fun k => if k < B then own k else g
theorem mark_lt {own : Nat → Nat} {B g k : Nat} (h : k < B) : mark own B g k = own k := if_pos h
theorem mark_ge {own : Nat → Nat} {B g k : Nat} (h : B ≤ k) : mark own B g k = g := if_neg (Nat.not_lt.2 h)

theorem Blk.sl_ne {w : World} {b : Nat} {cs : Array Value} {T' : TypeId} (h : Blk w b cs T') {v : Value} {T : TypeId} {es n : Nat} {xs : List Value} (hT : T ≠ T') (hs : Sl w v T es n xs) : ∀ k, v.ownBlock = some k → k ≠ b := by
  intro k hk e
  rcases hs.2 with ⟨rfl, _⟩ | ⟨b', off, cap, cs', rfl, hbk, _⟩
  · simp [Value.ownBlock] at hk
  · simp [Value.ownBlock] at hk
    subst hk
    unfold Blk at h hbk
    rw [e, h] at hbk
    cases hbk
    exact hT rfl
theorem Sl.ne_map {w : World} {b : Nat} {f : Int → Int} (h : MapB w b f) {v : Value} {T : TypeId} {es n : Nat} {xs : List Value} (hs : Sl w v T es n xs) : ∀ k, v.ownBlock = some k → k ≠ b := by
  intro k hk e
  obtain ⟨es', c, h1, _⟩ := h
  rcases hs.2 with ⟨rfl, _⟩ | ⟨b', off, cap, cs', rfl, hbk, _⟩
  · simp [Value.ownBlock] at hk
  · simp [Value.ownBlock] at hk
    subst hk
    unfold Blk at hbk
    rw [e, h1] at hbk
    cases hbk
theorem Sl.ne_sl {w : World} {v v' : Value} {T T' : TypeId} {es n es' n' : Nat} {xs xs' : List Value} (hT : T ≠ T') (h : Sl w v T es n xs) (h' : Sl w v' T' es' n' xs') : ∀ k, v.ownBlock = some k → v'.ownBlock ≠ some k := by
  intro k hk hk'
  rcases h'.2 with ⟨rfl, _⟩ | ⟨b', off, cap, cs', rfl, hbk, _⟩
  · simp [Value.ownBlock] at hk'
  · simp [Value.ownBlock] at hk'
    exact hbk.sl_ne hT h k hk hk'.symm

theorem cells_new (w : World) (l : List Value) (T : TypeId) (b : Nat) (hb : b = w.heap.size) : ∀ j u, l[j]? = some u → (w.alloc (.cells l.toArray T)).cell? ((⟨b, 0, none⟩ : Addr).add j) = some u := by
  intro j u hj
  rw [addr_add, hb, Nat.zero_add, World.cell?_alloc_new]
  simpa using hj

theorem drewN_setCell (w : World) (n : Nat) (a : Addr) (v : Value) : (w.drewN n).setCell a v = (w.setCell a v).drewN n := rfl
theorem drewN_alloc (w : World) (n : Nat) (o : Obj) : (w.drewN n).alloc o = (w.alloc o).drewN n := rfl
theorem drewN_put (w : World) (n b : Nat) (cs : Array Value) (T : TypeId) : put (w.drewN n) b cs T = (put w b cs T).drewN n := rfl
theorem Ext.put {own : Nat → Nat} {S : Nat → Prop} {w : World} {b : Nat} {cs : Array Value} {T : TypeId} (h : S (own b)) : Ext own own S w (put w b cs T) :=
  ⟨rfl, rfl, rfl, by rw [put_size]; exact Nat.le_refl _, fun _ _ => rfl, fun k _ hs => put_heap_ne w b k cs T (fun e => hs (by rw [e]; exact h))⟩
theorem Ext.alloc (own : Nat → Nat) (S : Nat → Prop) (w : World) (o : Obj) (g : Nat) : Ext own (mark own w.heap.size g) S w (w.alloc o) :=
  ⟨rfl, rfl, rfl, by simp, fun k hk => mark_lt hk, fun k hk _ => Below.heap_alloc w o k hk⟩
theorem Ext.alloc' (own : Nat → Nat) (S : Nat → Prop) (w : World) (o : Obj) : Ext own own S w (w.alloc o) :=
  ⟨rfl, rfl, rfl, by simp, fun _ _ => rfl, fun k hk _ => Below.heap_alloc w o k hk⟩
theorem Ext.drewN {own own' : Nat → Nat} {S : Nat → Prop} {w w' : World} (h : Ext own own' S w w') (n : Nat) : Ext own own' S w (w'.drewN n) := ⟨h.os, h.tape, h.output, h.size, h.keep, h.block⟩
theorem Ext.drew {own own' : Nat → Nat} {S : Nat → Prop} {w w' : World} (h : Ext own own' S w w') : Ext own own' S w w'.drew := ⟨h.os, h.tape, h.output, h.size, h.keep, h.block⟩
theorem Blk.ext {own own' : Nat → Nat} {S : Nat → Prop} {w w' : World} {b : Nat} {cs : Array Value} {T : TypeId} (h : Blk w b cs T) (hx : Ext own own' S w w') (hs : ¬ S (own b)) : Blk w' b cs T := (hx.block b h.lt hs).trans h

theorem Below.put {B : Nat} {w w' : World} (h : Below B w w') {b : Nat} (hb : B ≤ b) (cs : Array Value) (T : TypeId) : Below B w (put w' b cs T) :=
  ⟨h.os, h.tape, h.output, by rw [put_size]; exact h.size, fun k hk => (put_heap_ne w' b k cs T (by omega)).trans (h.block k hk)⟩
theorem Ext.shut {own own' : Nat → Nat} {S : Nat → Prop} {w w1 w2 : World} (h : Ext own own' S w w1) (hb : Below w.heap.size w1 w2) : Ext own own' S w w2 :=
  ⟨hb.os.trans h.os, hb.tape.trans h.tape, hb.output.trans h.output, Nat.le_trans h.size hb.size, h.keep, fun k hk hs => (hb.block k hk).trans (h.block k hk hs)⟩
theorem put_comm (w : World) (b b' : Nat) (cs cs' : Array Value) (T T' : TypeId) (h : b ≠ b') : put (put w b cs T) b' cs' T' = put (put w b' cs' T') b cs T := by
  simp only [put]
  rw [Array.setIfInBounds_comm _ _ h]
theorem Blk.neT {w : World} {b b' : Nat} {cs cs' : Array Value} {T T' : TypeId} (h : Blk w b cs T) (h' : Blk w b' cs' T') (hT : T ≠ T') : b ≠ b' := by
  rintro rfl
  unfold Blk at h h'
  rw [h] at h'
  cases h'
  exact hT rfl
theorem MapB.neB {w : World} {b b' : Nat} {f : Int → Int} {cs : Array Value} {T : TypeId} (h : MapB w b f) (h' : Blk w b' cs T) : b ≠ b' := by
  rintro rfl
  obtain ⟨es, c, hb, _⟩ := h
  unfold Blk at h'
  rw [h'] at hb; cases hb
theorem Sl.castM {w : World} {v : Value} {T : TypeId} {es n n' : Nat} {xs xs' : List Value} (h : Sl w v T es n xs) (e1 : n = n') (e2 : xs = xs') : Sl w v T es n' xs' := by subst e1; subst e2; exact h
theorem cutM {P : Program} {c : Code} {K Km : Act → World → Prop} {Q : Exit → Act → World → Prop} {a : Act} {w : World} (hrest : ∀ a w, Km a w → K a w) (hfirst : c.wp P (Exit.then Km Q) a w) : c.wp P (Exit.then K Q) a w :=
  Code.wp_mono (fun e a' w' h => by cases e <;> first | exact hrest _ _ h | exact h) hfirst
theorem q_of {Q : Act → Prop} {F : (Nat → Value) → Act} (hQ : ∀ u, Q (F u)) (act : Act) (e : act = F (fun i => act.tmps.getD i undef)) : Q act := by rw [e]; exact hQ _
theorem put_turn (w : World) (b b' : Nat) (c1 c2 c3 : Array Value) (T T' : TypeId) (h : b ≠ b') : put (put (put w b c1 T) b' c2 T') b c3 T = put (put w b c3 T) b' c2 T' := by
  rw [put_comm _ _ _ _ _ _ _ (Ne.symm h), put_put]
theorem upd_self {α : Type} (f : Nat → α) (m : Nat) : upd f m (f m) = f := by
  funext i
  by_cases e : i = m
  · rw [e, upd_same]
  · rw [upd_ne _ _ _ _ e]
theorem dn_os (w : World) (n : Nat) : (w.drewN n).os = w.os := rfl
theorem dn_tape (w : World) (n : Nat) : (w.drewN n).tape = w.tape := rfl
theorem dn_out (w : World) (n : Nat) : (w.drewN n).output = w.output := rfl
theorem ca1 (w : World) (o : Obj) (a : Addr) (v : Value) (h : w.cell? a = some v) : (w.alloc o).cell? a = some v := by
  rw [World.cell?_alloc_lt _ _ _ (World.block_lt_of_cell? _ _ h)]; exact h
theorem put_os' (w : World) (b : Nat) (cs : Array Value) (T : TypeId) : (put w b cs T).os = w.os := rfl
theorem put_tape' (w : World) (b : Nat) (cs : Array Value) (T : TypeId) : (put w b cs T).tape = w.tape := rfl
theorem put_out' (w : World) (b : Nat) (cs : Array Value) (T : TypeId) : (put w b cs T).output = w.output := rfl
def loopsOf : Code → List Code
  | .loop c => [c]
  | .seq a b => loopsOf a ++ loopsOf b
  | .block _ c => loopsOf c
  | .scope c => loopsOf c
  | .cond _ a b => loopsOf a ++ loopsOf b
  | _ => []
theorem below_drewN' {B n : Nat} {w w' : World} (h : Below B w w') : Below B w (w'.drewN n) := ⟨h.os, h.tape, h.output, h.size, h.block⟩
theorem mixed : Try.prog.follows .mixedOrders = true := by kernel_rfl
end Go.Proofs.Qxb6500749a
