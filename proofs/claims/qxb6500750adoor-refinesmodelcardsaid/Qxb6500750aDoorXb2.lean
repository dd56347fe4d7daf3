import Derived.Test.Qxb6500750aDoorXb1
namespace Go.Proofs.Qxb6500750aDoor
open Go.RowKit
attribute [local go_sem] put_size put_cell_same put_cell_ne put_frozen_same put_frozen_ne put_setCell_same put_setCell_ne put_drew

theorem Ext.put {own : Nat → Nat} {S : Nat → Prop} {w : World} {b : Nat} {cs : Array Value} {T : TypeId} (h : S (own b)) : Ext own own S w (put w b cs T) :=
  ⟨rfl, rfl, rfl, by rw [put_size]; exact Nat.le_refl _, fun _ _ => rfl, fun k _ hs => put_heap_ne w b k cs T (fun e => hs (by rw [e]; exact h))⟩
theorem Ext.alloc (own : Nat → Nat) (S : Nat → Prop) (w : World) (o : Obj) (g : Nat) : Ext own (mark own w.heap.size g) S w (w.alloc o) :=
  ⟨rfl, rfl, rfl, by simp, fun k hk => mark_lt hk, fun k hk _ => Below.heap_alloc w o k hk⟩
theorem Ext.alloc' (own : Nat → Nat) (S : Nat → Prop) (w : World) (o : Obj) : Ext own own S w (w.alloc o) :=
  ⟨rfl, rfl, rfl, by simp, fun _ _ => rfl, fun k hk _ => Below.heap_alloc w o k hk⟩
theorem Ext.drewN {own own' : Nat → Nat} {S : Nat → Prop} {w w' : World} (h : Ext own own' S w w') (n : Nat) : Ext own own' S w (w'.drewN n) := ⟨h.os, h.tape, h.output, h.size, h.keep, h.block⟩
theorem Ext.drew {own own' : Nat → Nat} {S : Nat → Prop} {w w' : World} (h : Ext own own' S w w') : Ext own own' S w w'.drew := ⟨h.os, h.tape, h.output, h.size, h.keep, h.block⟩
theorem Blk.ext {own own' : Nat → Nat} {S : Nat → Prop} {w w' : World} {b : Nat} {cs : Array Value} {T : TypeId} (h : Blk w b cs T) (hx : Ext own own' S w w') (hs : ¬ S (own b)) : Blk w' b cs T := (hx.block b h.lt hs).trans h

/-- The port at block pb, its blocks marked g, reads as q. -/
def PR (own : Nat → Nat) (g : Nat) (w : World) (pb : Nat) (q : PS) : Prop := ∃ L : PL, L.pb = pb ∧ PRep own g w L q
theorem PR.ext {own own' : Nat → Nat} {g pb : Nat} {S : Nat → Prop} {w w' : World} {q : PS} (h : PR own g w pb q) (hx : Ext own own' S w w') (hg : ¬ S g) : PR own' g w' pb q := by
  obtain ⟨L, h1, h2⟩ := h; exact ⟨L, h1, h2.ext hx hg⟩
theorem PR.lt {own : Nat → Nat} {g pb : Nat} {w : World} {q : PS} (h : PR own g w pb q) : pb < w.heap.size := by
  obtain ⟨L, rfl, h2⟩ := h; exact h2.blk.lt
theorem PR.own {own : Nat → Nat} {g pb : Nat} {w : World} {q : PS} (h : PR own g w pb q) : own pb = g := by
  obtain ⟨L, rfl, h2⟩ := h; exact h2.opb
theorem tick_pr (own : Nat → Nat) (g pb : Nat) (q : PS) (w : World) (h : PR own g w pb q) :
    Calls Tryd.prog 68 #[.pointer (some ⟨pb, 0, none⟩)] w fun e w' => e = .returned (.tuple #[tickR q, .bool (tickEnds q)]) ∧ PR own g w' pb (tickP q) ∧ Ext own own (· = g) w w' := by
  obtain ⟨L, rfl, h2⟩ := h
  refine (tick_rep own g L q w h2).mono ?_
  rintro e w' ⟨rfl, h3, h4⟩
  exact ⟨rfl, ⟨L, rfl, h3⟩, h4⟩
theorem send_pr (own : Nat → Nat) (g pb : Nat) (q : PS) (r : LReq) (hb : q.busy = false) (w : World) (h : PR own g w pb q)
    (hpl : ∀ p ∈ q.plans, 0 ≤ p.o ∧ p.o < 6 ∧ 0 ≤ p.l ∧ p.l < 4294967296) (hn : q.plans.length ≤ 8) (ha : q.atts.length < 1000000000) :
    Calls Tryd.prog 69 #[.pointer (some ⟨pb, 0, none⟩), .agg #[.int .u8 r.id, .bool r.w, .int .u32 r.ad, .int .u32 r.da]] w fun e w' => e = .returned (.bool true) ∧ ∃ own', PR own' g w' pb (sendP q r) ∧ Ext own own' (· = g) w w' := by
  obtain ⟨L, rfl, h2⟩ := h
  refine (send_any own g L q r hb w h2 hpl hn ha).mono ?_
  rintro e w' ⟨rfl, own', L', h3, _, h4, h5⟩
  exact ⟨rfl, own', ⟨L', h3, h4⟩, h5⟩

/-! ### poll -/
def endS (q : PS) : Int := if tickS q == 0 then 0 else if tickS q == 1 then 1 else 3
def endD (q : PS) : Int := if tickS q == 0 then tickD q else 0
def pollE (q : PS) : Value := if tickEnds q then .agg #[.int .u8 (endS q), .int .u32 (endD q), .int .u8 (tickS q)] else .agg #[.int .u8 0, .int .u32 0, .int .u8 0]
theorem poll_none (b o : Nat) (w : World) (hc : w.cell? ⟨b, o, none⟩ = some (.pointer none)) :
    Calls Tryd.prog 61 #[.pointer (some ⟨b, o, none⟩)] w fun e w' => e = .returned (.tuple #[.agg #[.int .u8 2, .int .u32 0, .int .u8 0], .bool true]) ∧ Below w.heap.size w w' := by
  have hb := World.block_lt_of_cell? _ _ hc
  go_enter Tryd.func61, Tryd.ntmps61
  go_wp2
  exact bodyPost_ret (v := .tuple #[.agg #[.int .u8 2, .int .u32 0, .int .u8 0], .bool true]) (by simp [results, Tryd.results61, go_sem]) rfl ⟨rfl, (Below.refl _ _).alloc (Nat.le_refl _) _⟩
/-- What a function does to blocks of its own: those from B on that are marked 50. -/
structure Loc (own : Nat → Nat) (B : Nat) (w w' : World) : Prop where
  below : Below B w w'
  ext : Ext own own (· = 50) w w'
theorem Loc.refl (own : Nat → Nat) (B : Nat) (w : World) : Loc own B w w := ⟨Below.refl _ _, Ext.refl _ _ _⟩
theorem Loc.trans {own : Nat → Nat} {B : Nat} {w w1 w2 : World} (h : Loc own B w w1) (k : Loc own B w1 w2) : Loc own B w w2 := ⟨h.below.trans k.below, h.ext.trans k.ext⟩
theorem Below.put {B : Nat} {w w' : World} (h : Below B w w') {b : Nat} (hb : B ≤ b) (cs : Array Value) (T : TypeId) : Below B w (put w' b cs T) :=
  ⟨h.os, h.tape, h.output, by rw [put_size]; exact h.size, fun k hk => (put_heap_ne w' b k cs T (by omega)).trans (h.block k hk)⟩
theorem Loc.put {own : Nat → Nat} {B : Nat} {w w' : World} (h : Loc own B w w') {b : Nat} (hb : B ≤ b) (ho : own b = 50) (cs : Array Value) (T : TypeId) : Loc own B w (put w' b cs T) :=
  ⟨Below.put h.below hb cs T, h.ext.trans (Ext.put ho)⟩
/-- The same, where the block has been laid already. -/
theorem Loc.put' {own : Nat → Nat} {B : Nat} {w : World} {b : Nat} (hb : B ≤ b) (ho : own b = 50) (cs cs' : Array Value) (T T' : TypeId) : Loc own B (Qxb6500750aDoor.put w b cs T) (Qxb6500750aDoor.put w b cs' T') := by
  rw [← put_put w b cs cs' T T']
  exact (Loc.refl own B _).put hb ho cs' T'
theorem Loc.alloc {own : Nat → Nat} {B : Nat} {w w' : World} (h : Loc own B w w') (hB : B ≤ w'.heap.size) (o : Obj) : Loc own B w (w'.alloc o) :=
  ⟨h.below.alloc hB o, h.ext.trans (Ext.alloc' _ _ _ _)⟩
theorem Ext.shut {own own' : Nat → Nat} {S : Nat → Prop} {w w1 w2 : World} (h : Ext own own' S w w1) (hb : Below w.heap.size w1 w2) : Ext own own' S w w2 :=
  ⟨hb.os.trans h.os, hb.tape.trans h.tape, hb.output.trans h.output, Nat.le_trans h.size hb.size, h.keep, fun k hk hs => (hb.block k hk).trans (h.block k hk hs)⟩
theorem Ext.local {own own' : Nat → Nat} {S : Nat → Prop} {w w1 w2 : World} (h : Ext own own' S w w1) (hb : Loc own' w.heap.size w1 w2) : Ext own own' S w w2 := h.shut hb.below
theorem PR.local {own : Nat → Nat} {g pb B : Nat} {w w' : World} {q : PS} (h : PR own g w pb q) (hx : Loc own B w w') (hg : g < 50) : PR own g w' pb q := h.ext hx.ext (by omega)

set_option maxHeartbeats 1000000 in
theorem poll_link (own : Nat → Nat) (g pb b o : Nat) (q : PS) (hg : g < 50) (w : World) (hc : w.cell? ⟨b, o, none⟩ = some (.pointer (some ⟨pb, 0, none⟩))) (h : PR own g w pb q) :
    Calls Tryd.prog 61 #[.pointer (some ⟨b, o, none⟩)] w fun e w' => e = .returned (.tuple #[pollE q, .bool (tickEnds q)]) ∧ ∃ own', PR own' g w' pb (tickP q) ∧ Ext own own' (· = g) w w' := by
  have hb := World.block_lt_of_cell? _ _ hc
  have Hh := hid_of h
  clear h
  go_enter Tryd.func61, Tryd.ntmps61
  go_wp2_with fail
  have hx : Ext own (mark own w.heap.size 50) (fun _ => False) w (w.alloc (.cells #[.int .u8 0, .int .u32 0, .int .u8 0] 161)) := Ext.alloc _ _ _ _ _
  refine (tick_pr _ g pb q _ (Hh.out.ext hx (fun h => h))).mono ?_
  rintro e w1 ⟨rfl, h1, h2⟩
  have hB : Blk w1 w.heap.size #[.int .u8 0, .int .u32 0, .int .u8 0] 161 := (Blk.new w _ _).ext h2 (by rw [mark_ge (Nat.le_refl _)]; omega)
  have hz : w.heap.size < w1.heap.size := by have := h2.size; simp at this; omega
  have HX := hid_of ((hx.mono (S' := (· = g)) (fun _ h => h.elim)).trans h2)
  have H1 := hid_of h1
  obtain ⟨w2, rfl, hl2⟩ := hB.out
  clear h1 h2 hx hB hz
  have fin : ∀ w3, Loc (mark own w.heap.size 50) w.heap.size (put w2 w.heap.size #[.int .u8 0, .int .u32 0, .int .u8 0] 161) w3 → Hid (∃ own', PR own' g w3 pb (tickP q) ∧ Ext own own' (· = g) w w3) := fun w3 hl => ⟨_, H1.out.local hl hg, HX.out.local hl⟩
  have lp : ∀ cs, Loc (mark own w.heap.size 50) w.heap.size (put w2 w.heap.size #[.int .u8 0, .int .u32 0, .int .u8 0] 161) (put w2 w.heap.size cs 161) := fun cs => Loc.put' (Nat.le_refl _) (mark_ge (Nat.le_refl _)) _ _ _ _
  have lp2 : ∀ cs o, Loc (mark own w.heap.size 50) w.heap.size (put w2 w.heap.size #[.int .u8 0, .int .u32 0, .int .u8 0] 161) ((put w2 w.heap.size cs 161).alloc o) := fun cs o => (lp cs).alloc (by rw [put_size]; omega) o
  clear HX H1 lp
  cases he : tickEnds q
  · have e1 : tickR q = .agg #[.int .u8 0, .int .u8 0, .int .u32 0] := by simp [tickR, he, respV]
    have e2 := hid_of (show pollE q = .agg #[.int .u8 0, .int .u32 0, .int .u8 0] by simp [pollE, he])
    rw [e1]
    clear e1
    go_wp2
    exact bodyPost_ret (v := .tuple #[.agg #[.int .u8 0, .int .u32 0, .int .u8 0], .bool false]) (by simp [results, Tryd.results61, go_sem, World.cell?_alloc_lt, hl2]) rfl ⟨by rw [e2.out, he], fin _ (lp2 _ _)⟩
  · have e1 : tickR q = .agg #[.int .u8 q.rid, .int .u8 (tickS q), .int .u32 (tickD q)] := by simp [tickR, he, respV]
    rw [e1]
    clear e1
    cases h0 : tickS q == 0
    · cases h1 : tickS q == 1
      · have e2 := hid_of (show pollE q = .agg #[.int .u8 3, .int .u32 0, .int .u8 (tickS q)] by simp only [pollE, he, endS, endD, h0, h1]; rfl)
        go_wp2
        exact bodyPost_ret (v := .tuple #[.agg #[.int .u8 3, .int .u32 0, .int .u8 (tickS q)], .bool true]) (by simp [results, Tryd.results61, go_sem, World.cell?_alloc_lt, hl2]) rfl ⟨by rw [e2.out, he], fin _ (lp2 _ _)⟩
      · have e2 := hid_of (show pollE q = .agg #[.int .u8 1, .int .u32 0, .int .u8 (tickS q)] by simp only [pollE, he, endS, endD, h0, h1]; rfl)
        go_wp2
        exact bodyPost_ret (v := .tuple #[.agg #[.int .u8 1, .int .u32 0, .int .u8 (tickS q)], .bool true]) (by simp [results, Tryd.results61, go_sem, World.cell?_alloc_lt, hl2]) rfl ⟨by rw [e2.out, he], fin _ (lp2 _ _)⟩
    · have e2 := hid_of (show pollE q = .agg #[.int .u8 0, .int .u32 (tickD q), .int .u8 (tickS q)] by simp only [pollE, he, endS, endD, h0]; rfl)
      go_wp2
      exact bodyPost_ret (v := .tuple #[.agg #[.int .u8 0, .int .u32 (tickD q), .int .u8 (tickS q)], .bool true]) (by simp [results, Tryd.results61, go_sem, World.cell?_alloc_lt, hl2]) rfl ⟨by rw [e2.out, he], fin _ (lp2 _ _)⟩
end Go.Proofs.Qxb6500750aDoor
