import Derived.Test.Qxb6500750aDoorFfU
import Derived.Test.Qxb6500750aDoorGho
import Derived.Test.Qxb6500750aDoorRng
import Derived.Test.Qxb6500750aDoorLai
namespace Go.Proofs.Qxb6500750aDoor
open Go.RowKit
/-! ### The law without faults: the start, the script, the drain -/
def ownF (k : Nat) : Nat := if k = 0 ∨ k = 1 ∨ k = 3 then 9 else 8
theorem ownF_SF (k : Nat) : ¬ SF (ownF k) := by
  unfold ownF SF
  split <;> omega
theorem below_of_extF {own' : Nat → Nat} {w w' : World} (h : Ext ownF own' SF w w') : Below w.heap.size w w' := ⟨h.os, h.tape, h.output, h.size, fun k hk => h.block k hk (ownF_SF k)⟩
/-- The worlds of the start. -/
def stW (w1 : World) (rg : Nat) : World := ((((((w1.alloc (.cells #[.pointer (some ⟨rg, 0, none⟩)] 24)).alloc (.map #[] 0)).alloc (.cells #[.map (some (w1.heap.size + 1))] 87)).alloc (.cells #[.slice none 0 0, .slice none 0 0, .slice none 0 0] 73)).alloc (.cells #[.slice none 0 0, .slice none 0 0, .slice none 0 0] 89)).alloc (.cells #[.int .i64 0, .int .i64 0, .int .i64 0] 74))
def stL (s rg xb : Nat) (pbs : Nat → Nat) : FB := ⟨s, s + 2, s + 3, s + 4, s + 5, s + 1, rg, xb, pbs⟩
def stO (own : Nat → Nat) (s : Nat) : Nat → Nat := mark (mark (mark (mark (mark (mark own s 8) (s + 1) 14) (s + 2) 8) (s + 3) 10) (s + 4) 20) (s + 5) 16
theorem stW_get (w1 : World) (rg j : Nat) (o : Obj) (h : [Obj.cells #[.pointer (some ⟨rg, 0, none⟩)] 24, .map #[] 0, .cells #[.map (some (w1.heap.size + 1))] 87, .cells #[.slice none 0 0, .slice none 0 0, .slice none 0 0] 73, .cells #[.slice none 0 0, .slice none 0 0, .slice none 0 0] 89, .cells #[.int .i64 0, .int .i64 0, .int .i64 0] 74][j]? = some o) : (stW w1 rg).heap[w1.heap.size + j]? = some o := by
  have hl : (stW w1 rg).heap.toList = w1.heap.toList ++ [Obj.cells #[.pointer (some ⟨rg, 0, none⟩)] 24, .map #[] 0, .cells #[.map (some (w1.heap.size + 1))] 87, .cells #[.slice none 0 0, .slice none 0 0, .slice none 0 0] 73, .cells #[.slice none 0 0, .slice none 0 0, .slice none 0 0] 89, .cells #[.int .i64 0, .int .i64 0, .int .i64 0] 74] := by
    show ((((((w1.heap.push _).push _).push _).push _).push _).push _).toList = _
    simp
  rw [← Array.getElem?_toList, hl, List.getElem?_append_right (by simp)]
  simpa using h
theorem stO_at (own : Nat → Nat) (s j : Nat) (hj : j < 6) : stO own s (s + j) = [8, 14, 8, 10, 20, 16][j]?.getD 0 := by
  unfold stO mark
  obtain rfl | rfl | rfl | rfl | rfl | rfl : j = 0 ∨ j = 1 ∨ j = 2 ∨ j = 3 ∨ j = 4 ∨ j = 5 := by omega
  all_goals simp
theorem stO_lt (own : Nat → Nat) (s k : Nat) (hk : k < s) : stO own s k = own k := by
  unfold stO
  rw [mark_lt (by omega), mark_lt (by omega), mark_lt (by omega), mark_lt (by omega), mark_lt (by omega), mark_lt hk]
theorem st_fi {w w1 : World} {own1 : Nat → Nat} {rg xb : Nat} {pbs : Nat → Nat} (hG : Glb ownF w) (hr : RRep own1 w1 rg xb pbs ss0) (hx : Ext ownF own1 (fun _ => False) w w1) :
    FI (stO own1 w1.heap.size) (stW w1 rg) (stL w1.heap.size rg xb pbs) (fun _ => .slice none 0 0) (fun _ => .slice none 0 0) ss0 (fun m => (ss0.x.mp m).rt) (fun _ => []) (fun _ => []) (fun _ => 0) ∧ Ext ownF (stO own1 w1.heap.size) SF w (stW w1 rg) := by
  have hsz : (stW w1 rg).heap.size = w1.heap.size + 6 := by unfold stW; simp
  have hx1 : Ext own1 (stO own1 w1.heap.size) (fun _ => False) w1 (stW w1 rg) := ⟨rfl, rfl, rfl, by omega, fun k hk => stO_lt _ _ _ hk, fun k hk _ => by
    unfold stW
    simp only [World.alloc]
    rw [Array.getElem?_push_lt (by simp; omega), Array.getElem_push_lt (by simp; omega), Array.getElem_push_lt (by simp; omega), Array.getElem_push_lt (by simp; omega), Array.getElem_push_lt (by simp; omega), Array.getElem_push_lt hk, Array.getElem?_eq_getElem hk]⟩
  have hxx := hx.trans hx1
  have hB : ∀ j o, _ → _ := stW_get w1 rg
  refine ⟨⟨hr.ext hx1 (fun _ _ h => h), hG.ext hxx (fun h => h), hB 0 _ rfl, hB 2 _ rfl, hB 3 _ rfl, hB 4 _ rfl, hB 5 _ rfl, ?_, fun m _ => Sl.nil _ _ _, fun m _ => Sl.nil _ _ _, fun m _ r hr => (by cases hr), stO_at own1 _ 0 (by omega), stO_at own1 _ 2 (by omega), stO_at own1 _ 3 (by omega), stO_at own1 _ 4 (by omega), stO_at own1 _ 5 (by omega), stO_at own1 _ 1 (by omega), fun m _ k hk => ?_, fun m _ k hk => ?_⟩, hxx.mono (fun _ h => h.elim)⟩
  · exact ⟨#[], 0, hB 1 _ rfl, by simp, fun _ _ => rfl, Go.MapKept.stamped_empty 0⟩
  · have hk : (Value.slice none 0 0).ownBlock = some k := hk
    simp [Value.ownBlock] at hk
  · have hk : (Value.slice none 0 0).ownBlock = some k := hk
    simp [Value.ownBlock] at hk
/-- The state between two steps. -/
structure FS (w wr : World) (L : FB) (N : Nat) (own : Nat → Nat) (av ev : Nat → Value) (σ : SS) (acc : Nat → List Req) (exp : Nat → List Ret) (mem : Int → Int) : Prop where
  fi : FI own wr L av ev σ (fun m => (σ.x.mp m).rt) acc exp mem
  ff : FF σ acc exp mem
  inv : XInv (N : Nat) (14 * N) σ
  th : Thought σ
  ext : Ext ownF own SF w wr
theorem FS.below {w wr wr' : World} {L : FB} {N : Nat} {own : Nat → Nat} {av ev : Nat → Value} {σ : SS} {acc : Nat → List Req} {exp : Nat → List Ret} {mem : Int → Int} (h : FS w wr L N own av ev σ acc exp mem) (hb : Below wr.heap.size wr wr') : FS w wr' L N own av ev σ acc exp mem :=
  ⟨h.fi.below hb, h.ff, h.inv, h.th, h.ext.shut (hb.mono h.ext.size)⟩
theorem Thought.step {N : Int} {A : Nat} {σ : SS} (hi : XInv N A σ) (hN : N < 3000000) (h : Thought σ) {o : OpD} (h4 : o.k ≠ 4) (h5 : o.k ≠ 5) (ho : 0 ≤ o.a) : Thought (stepS σ o) := by
  have hi' : ∀ r, Thought { σ with x := issX σ.x o.a r } := fun r => by
    unfold issX
    by_cases h3 : 3 ≤ o.a
    · rw [if_pos h3]; exact h
    · rw [if_neg h3]
      by_cases hz : offS σ.x o.a.toNat = 0
      · rw [if_pos hz]; exact h.off hi (by omega) hz r
      · rw [if_neg hz]; exact h
  unfold stepS
  by_cases h0 : o.k = 0
  · rw [if_pos h0]; exact hi' _
  rw [if_neg h0]
  by_cases h1 : o.k = 1
  · rw [if_pos h1]; exact hi' _
  rw [if_neg h1]
  by_cases h2 : o.k = 2
  · rw [if_pos h2]
    split
    · exact h.planned _ _
    · exact h
  rw [if_neg h2]
  by_cases h3 : o.k = 3
  · rw [if_pos h3]; exact h.tick hi hN _
  rw [if_neg h3, if_neg h4, if_neg h5]
  exact h
/-- One call of the closure. -/
theorem FS.play {w wr : World} {L : FB} {N : Nat} {own : Nat → Nat} {av ev : Nat → Value} {σ : SS} {acc : Nat → List Req} {exp : Nat → List Ret} {mem : Int → Int} (h : FS w wr L N own av ev σ acc exp mem) (hN : N < 2000000) {o : OpD} (ho : OpOK o) (hop : o.k ≠ 4 ∧ o.k ≠ 5 ∧ (o.k = 2 → o.b = 0 ∧ o.c < 64)) :
    Calls Tryd.prog 28 #[.agg #[.int .u8 o.k, .int .u32 o.a, .int .u32 o.b, .int .u32 o.c], .pointer (some ⟨L.rb, 0, none⟩), .pointer (some ⟨L.ab, 0, none⟩), .pointer (some ⟨L.eb, 0, none⟩), .pointer (some ⟨L.mb, 0, none⟩), .pointer (some ⟨L.tb, 0, none⟩)] wr fun e w' => e = .returned (.bool true) ∧ ∃ own' av' ev' acc' exp' mem', FS w w' L (N + 1) own' av' ev' (stepS σ o) acc' exp' mem' := by
  refine (play_any own wr L av ev σ acc exp mem o (N : Nat) (14 * N) h.fi h.inv ⟨by omega, by omega⟩ (by omega) ho h.ff hop).mono ?_
  rintro e w' ⟨he, own', av', ev', acc', exp', mem', h1, h2, h3⟩
  exact ⟨he, own', av', ev', acc', exp', mem', h1, h2, h.inv.step ho (by omega), h.th.step h.inv (by omega) hop.1 hop.2.1 ho.a.1, h.ext.trans h3⟩
theorem FS.idle {w wr : World} {L : FB} {N : Nat} {own : Nat → Nat} {av ev : Nat → Value} {σ : SS} {acc : Nat → List Req} {exp : Nat → List Ret} {mem : Int → Int} (h : FS w wr L N own av ev σ acc exp mem) :
    Calls Tryd.prog 26 #[.pointer (some ⟨L.xb, 0, none⟩)] wr fun e w' => e = .returned (.bool (idleX σ.x)) ∧ Below wr.heap.size wr w' := by
  have hb := h.fi.rr.x.blk
  have h1 := idle_any (lk L.pbs) L.xb σ.x (fun m hm => by have := h.inv.cnt m hm; omega) wr hb.lt
  rw [put_self _ _ _ _ hb] at h1
  refine h1.mono ?_
  rintro e w' ⟨rfl, n, rfl⟩
  exact ⟨rfl, ⟨rfl, rfl, rfl, Nat.le_refl _, fun _ _ => rfl⟩⟩
def opTF : OpD := ⟨3, 16383, 0, 0⟩
theorem opTF_ok : OpOK opTF := ⟨by decide, by decide, by decide, by decide⟩
theorem FS.start {w wr : World} {L : FB} {N : Nat} {own : Nat → Nat} {av ev : Nat → Value} {σ : SS} {acc : Nat → List Req} {exp : Nat → List Ret} {mem : Int → Int} (h : FS w wr L N own av ev σ acc exp mem) : Meas σ 3141 := by
  obtain ⟨B, acc', hJ, _⟩ := h.th
  exact meas_start h.inv hJ
theorem FS.more {w wr : World} {L : FB} {N : Nat} {own : Nat → Nat} {av ev : Nat → Value} {σ : SS} {acc : Nat → List Req} {exp : Nat → List Ret} {mem : Int → Int} (h : FS w wr L N own av ev σ acc exp mem) {n : Int} (hM : Meas σ n) (hni : idleX σ.x = false) : 1 ≤ n ∧ Meas (stepS σ opTF) (n - 1) := by
  obtain ⟨B, acc', hJ, _⟩ := h.th
  have hX := h.inv.step opTF_ok (by omega)
  exact ⟨meas_zero h.inv hJ hM hni, meas_tick h.inv hJ 16383 hX hM hni⟩
/-- What is left when the crossbar is idle. -/
theorem FS.end {w wr : World} {L : FB} {N : Nat} {own : Nat → Nat} {av ev : Nat → Value} {σ : SS} {acc : Nat → List Req} {exp : Nat → List Ret} {mem : Int → Int} (h : FS w wr L N own av ev σ acc exp mem) (hid : idleX σ.x = true) :
    ∀ k, k < 3 → ∃ ad cap, wr.cell? ⟨L.ab, k, none⟩ = some (.slice ad (acc k).length cap) ∧ wr.cell? ⟨L.tb, k, none⟩ = some (.int .i64 ((acc k).length : Nat)) := fun k hk => by
  obtain ⟨i1, i2⟩ := (idleX_iff _).1 hid
  obtain ⟨ad, cap, hv⟩ := (h.fi.sa k hk).form'
  refine ⟨ad, cap, ?_, ?_⟩
  · rw [h.fi.ab.cell, row_get _ _ _ hk, hv]
  · rw [h.fi.tb.cell, row_get _ _ _ hk, ← i1 k hk, h.ff.iss k hk]
/-- A word of the memory, asked at its link. -/
theorem FS.word {w wr : World} {L : FB} {N : Nat} {own : Nat → Nat} {av ev : Nat → Value} {σ : SS} {acc : Nat → List Req} {exp : Nat → List Ret} {mem : Int → Int} (h : FS w wr L N own av ev σ acc exp mem) (a : Int) (ha : dec a < 6) (V : World) (hV : ∀ k, k < wr.heap.size → V.heap[k]? = wr.heap[k]?) :
    Calls Tryd.prog 19 #[.pointer (some ⟨L.pbs (dec a), 0, none⟩), .int .u32 a] V fun e w' => e = .returned (.int .u32 (mem a)) ∧ w' = V := by
  obtain ⟨P, e, hP⟩ := h.fi.rr.x.port (dec a) ha
  rw [← e, ← h.ff.mem a ha]
  exact word_any P _ V ((hV _ hP.blk.lt).trans hP.blk) (hP.map.same (hV _ hP.map.lt)) a
end Go.Proofs.Qxb6500750aDoor
