import Derived.Test.Qxb6500750aDoorMem
import Derived.Test.Qxb6500750aDoorReg
import Derived.KernelRfl
namespace Go.Proofs.Qxb6500750aDoor
open Go.RowKit
attribute [local go_sem] put_size put_cell_same put_cell_ne put_frozen_same put_frozen_ne put_setCell_same put_setCell_ne put_drew

/-! ### The link's state, as data -/
structure PlanD where
  o : Int
  l : Int
structure LReq where
  id : Int
  w : Bool
  ad : Int
  da : Int
structure Att where
  r : LReq
  p : PlanD
  acted : Bool
structure PS where
  mem : Int → Int
  plans : List PlanD
  atts : List Att
  busy : Bool
  wt : Int
  due : Int
  rid : Int
  rst : Int
  rda : Int
structure PL where
  pb : Nat
  mb : Nat
  pv : Value
  av : Value
def planRow (p : PlanD) : List Value := [.int .u8 p.o, .int .u32 p.l]
def attRow (a : Att) : List Value := [.int .u8 a.r.id, .bool a.r.w, .int .u32 a.r.ad, .int .u32 a.r.da, .int .u8 a.p.o, .int .u32 a.p.l, .bool a.acted]
def pcells (L : PL) (q : PS) : Array Value := #[.map (some L.mb), L.pv, L.av, .bool q.busy, .int .u32 q.wt, .int .u32 q.due, .int .u8 q.rid, .int .u8 q.rst, .int .u32 q.rda]
def respV (id st da : Int) : Value := .agg #[.int .u8 id, .int .u8 st, .int .u32 da]

/-! ### What Tick makes of the port -/
def tickW (q : PS) : Int := (q.wt + 1) % 4294967296
def tickEnds (q : PS) : Bool := q.busy && (tickW q == q.due || tickW q == 64)
def tickP (q : PS) : PS := if q.busy then { q with wt := tickW q, busy := !(tickW q == q.due || tickW q == 64) } else q
/-- Status and word of the response that Tick hands over. -/
def tickS (q : PS) : Int := if tickW q == q.due then q.rst else 4
def tickD (q : PS) : Int := if tickW q == q.due then q.rda else 0

def tickR (q : PS) : Value := if tickEnds q then respV q.rid (tickS q) (tickD q) else respV 0 0 0

set_option maxHeartbeats 1000000 in
theorem tick_any (L : PL) (q : PS) (w : World) (hB : Blk w L.pb (pcells L q) 113) :
    Calls Tryd.prog 68 #[.pointer (some ⟨L.pb, 0, none⟩)] w fun e w' => e = .returned (.tuple #[tickR q, .bool (tickEnds q)]) ∧ Below w.heap.size (put w L.pb (pcells L (tickP q)) 113) w' := by
  obtain ⟨w0, rfl, hlt⟩ := hB.out
  rw [put_put, put_size]
  by_cases hb : q.busy = true
  · by_cases hd : (tickW q == q.due) = true
    · have e1 : tickEnds q = true := by simp [tickEnds, hb, hd]
      have e2 : tickR q = .agg #[.int .u8 q.rid, .int .u8 q.rst, .int .u32 q.rda] := by simp [tickR, e1, respV, tickS, tickD, hd]
      have e3 : pcells L (tickP q) = #[.map (some L.mb), L.pv, L.av, .bool false, .int .u32 ((q.wt + 1) % 4294967296), .int .u32 q.due, .int .u8 q.rid, .int .u8 q.rst, .int .u32 q.rda] := by simp [tickP, hb, pcells, tickW]; intro h; exact absurd (by simpa [tickW] using hd) h
      have e4 : pcells L q = #[.map (some L.mb), L.pv, L.av, .bool true, .int .u32 q.wt, .int .u32 q.due, .int .u8 q.rid, .int .u8 q.rst, .int .u32 q.rda] := by simp [pcells, hb]
      rw [e1, e2, e3, e4]
      unfold tickW at hd
      clear e1 e2 e3 e4 hB hb
      go_enter Tryd.func68, Tryd.ntmps68
      go_wp2
      exact bodyPost_ret (v := .tuple #[.agg #[.int .u8 q.rid, .int .u8 q.rst, .int .u32 q.rda], .bool true]) (by simp [results, Tryd.results68, go_sem]) rfl ⟨rfl, (Below.refl _ _).alloc (by simp [put_size]) _⟩
    · by_cases ht : (tickW q == 64) = true
      · have e1 : tickEnds q = true := by simp [tickEnds, hb, ht]
        have e2 : tickR q = .agg #[.int .u8 q.rid, .int .u8 4, .int .u32 0] := by simp [tickR, e1, respV, tickS, tickD, hd]
        have e3 : pcells L (tickP q) = #[.map (some L.mb), L.pv, L.av, .bool false, .int .u32 ((q.wt + 1) % 4294967296), .int .u32 q.due, .int .u8 q.rid, .int .u8 q.rst, .int .u32 q.rda] := by simp [tickP, hb, pcells, tickW]; intro _; simpa [tickW] using ht
        have e4 : pcells L q = #[.map (some L.mb), L.pv, L.av, .bool true, .int .u32 q.wt, .int .u32 q.due, .int .u8 q.rid, .int .u8 q.rst, .int .u32 q.rda] := by simp [pcells, hb]
        rw [e1, e2, e3, e4]
        have hd' : ((q.wt + 1) % 4294967296 == q.due) = false := by simpa [tickW] using hd
        have ht' : ((q.wt + 1) % 4294967296 == 64) = true := by simpa [tickW] using ht
        clear e1 e2 e3 e4 hB hb hd ht
        go_enter Tryd.func68, Tryd.ntmps68
        go_wp2
        exact bodyPost_ret (v := .tuple #[.agg #[.int .u8 q.rid, .int .u8 4, .int .u32 0], .bool true]) (by simp [results, Tryd.results68, go_sem]) rfl ⟨rfl, (Below.refl _ _).alloc (by simp [put_size]) _⟩
      · have e1 : tickEnds q = false := by simp [tickEnds]; intro _; simp at hd ht; exact ⟨hd, ht⟩
        have e2 : tickR q = .agg #[.int .u8 0, .int .u8 0, .int .u32 0] := by simp [tickR, e1, respV]
        have e3 : pcells L (tickP q) = #[.map (some L.mb), L.pv, L.av, .bool true, .int .u32 ((q.wt + 1) % 4294967296), .int .u32 q.due, .int .u8 q.rid, .int .u8 q.rst, .int .u32 q.rda] := by
          have : tickP q = { q with wt := tickW q, busy := true } := by unfold tickP; rw [if_pos hb]; simp at hd ht; simp [hd, ht]
          rw [this]; simp [pcells, tickW]
        have e4 : pcells L q = #[.map (some L.mb), L.pv, L.av, .bool true, .int .u32 q.wt, .int .u32 q.due, .int .u8 q.rid, .int .u8 q.rst, .int .u32 q.rda] := by simp [pcells, hb]
        rw [e1, e2, e3, e4]
        have hd' : ((q.wt + 1) % 4294967296 == q.due) = false := by simpa [tickW] using hd
        have ht' : ((q.wt + 1) % 4294967296 == 64) = false := by simpa [tickW] using ht
        clear e1 e2 e3 e4 hB hb hd ht
        go_enter Tryd.func68, Tryd.ntmps68
        go_wp2
        exact bodyPost_ret (v := .tuple #[.agg #[.int .u8 0, .int .u8 0, .int .u32 0], .bool false]) (by simp [results, Tryd.results68, go_sem]) rfl ⟨rfl, (Below.refl _ _).alloc (by simp [put_size]) _⟩
  · have hb' : q.busy = false := by simpa using hb
    have e1 : tickEnds q = false := by simp [tickEnds, hb']
    have e2 : tickR q = .agg #[.int .u8 0, .int .u8 0, .int .u32 0] := by simp [tickR, e1, respV]
    have e3 : tickP q = q := by simp [tickP, hb']
    have e4 : pcells L q = #[.map (some L.mb), L.pv, L.av, .bool false, .int .u32 q.wt, .int .u32 q.due, .int .u8 q.rid, .int .u8 q.rst, .int .u32 q.rda] := by simp [pcells, hb']
    rw [e1, e2, e3, e4]
    clear e1 e2 e3 e4 hB hb hb'
    go_enter Tryd.func68, Tryd.ntmps68
    go_wp2
    exact bodyPost_ret (v := .tuple #[.agg #[.int .u8 0, .int .u8 0, .int .u32 0], .bool false]) (by simp [results, Tryd.results68, go_sem]) rfl ⟨rfl, (Below.refl _ _).alloc (by simp [put_size]) _⟩

/-! ### The small readers -/
theorem attempts_any (L : PL) (q : PS) (w : World) (hB : Blk w L.pb (pcells L q) 113) :
    Calls Tryd.prog 16 #[.pointer (some ⟨L.pb, 0, none⟩)] w fun e w' => e = .returned L.av ∧ w' = w := by
  obtain ⟨w0, rfl, hlt⟩ := hB.out
  unfold pcells
  go_enter Tryd.func16, Tryd.ntmps16
  go_wp2
  go_ret
  exact ⟨rfl, rfl⟩
theorem busy_any (L : PL) (q : PS) (w : World) (hB : Blk w L.pb (pcells L q) 113) :
    Calls Tryd.prog 59 #[.pointer (some ⟨L.pb, 0, none⟩)] w fun e w' => e = .returned (.bool q.busy) ∧ w' = w := by
  obtain ⟨w0, rfl, hlt⟩ := hB.out
  unfold pcells
  go_enter Tryd.func59, Tryd.ntmps59
  go_wp2
  go_ret
  exact ⟨rfl, rfl⟩
theorem zero29 (w : World) : (zeroValue 29).run Tryd.prog w = .ok (.int .u32 0) w := by kernel_rfl
theorem word_any (L : PL) (q : PS) (w : World) (hB : Blk w L.pb (pcells L q) 113) (hM : MapB w L.mb q.mem) (a : Int) :
    Calls Tryd.prog 19 #[.pointer (some ⟨L.pb, 0, none⟩), .int .u32 a] w fun e w' => e = .returned (.int .u32 (q.mem a)) ∧ w' = w := by
  have hl := run_lookup_words (P := Tryd.prog) hM Tryd.underlying87 Tryd.underlying29 zero29 a
  have c0 := hB.cell 0
  simp [pcells] at c0
  go_enter Tryd.func19, Tryd.ntmps19
  go_wp2
  go_ret
  exact ⟨rfl, rfl⟩

/-! ### Whose is a block: each block bears a mark; a call turns blocks of its own marks alone -/
structure Ext (own own' : Nat → Nat) (S : Nat → Prop) (w w' : World) : Prop where
  os : w'.os = w.os
  tape : w'.tape = w.tape
  output : w'.output = w.output
  size : w.heap.size ≤ w'.heap.size
  keep : ∀ k, k < w.heap.size → own' k = own k
  block : ∀ k, k < w.heap.size → ¬ S (own k) → w'.heap[k]? = w.heap[k]?
theorem Ext.refl (own : Nat → Nat) (S : Nat → Prop) (w : World) : Ext own own S w w := ⟨rfl, rfl, rfl, Nat.le_refl _, fun _ _ => rfl, fun _ _ _ => rfl⟩
theorem Ext.trans {own own1 own2 : Nat → Nat} {S : Nat → Prop} {w w1 w2 : World} (h : Ext own own1 S w w1) (k : Ext own1 own2 S w1 w2) : Ext own own2 S w w2 :=
  ⟨k.os.trans h.os, k.tape.trans h.tape, k.output.trans h.output, Nat.le_trans h.size k.size, fun b hb => (k.keep b (Nat.lt_of_lt_of_le hb h.size)).trans (h.keep b hb),
    fun b hb hs => (k.block b (Nat.lt_of_lt_of_le hb h.size) (by rw [h.keep b hb]; exact hs)).trans (h.block b hb hs)⟩
theorem Ext.mono {own own' : Nat → Nat} {S S' : Nat → Prop} {w w' : World} (h : Ext own own' S w w') (hs : ∀ k, S k → S' k) : Ext own own' S' w w' :=
  ⟨h.os, h.tape, h.output, h.size, h.keep, fun k hk hn => h.block k hk (fun hh => hn (hs _ hh))⟩
theorem Ext.of_below {own : Nat → Nat} {S : Nat → Prop} {w w' : World} (h : Below w.heap.size w w') : Ext own own S w w' :=
  ⟨h.os, h.tape, h.output, h.size, fun _ _ => rfl, fun k hk _ => h.block k hk⟩
/-- The marks, with every block from B on marked g. -/
def mark (own : Nat → Nat) (B g : Nat) : Nat → Nat := fun k => if k < B then own k else g
theorem mark_lt {own : Nat → Nat} {B g k : Nat} (h : k < B) : mark own B g k = own k := if_pos h
theorem mark_ge {own : Nat → Nat} {B g k : Nat} (h : B ≤ k) : mark own B g k = g := if_neg (Nat.not_lt.2 h)

/-- The port at layout L, its blocks marked g, reads as q. -/
structure PRep (own : Nat → Nat) (g : Nat) (w : World) (L : PL) (q : PS) : Prop where
  blk : Blk w L.pb (pcells L q) 113
  map : MapB w L.mb q.mem
  plans : Sl w L.pv 57 2 q.plans.length (q.plans.flatMap planRow)
  atts : Sl w L.av 59 7 q.atts.length (q.atts.flatMap attRow)
  opb : own L.pb = g
  omb : own L.mb = g
  opv : ∀ k, L.pv.ownBlock = some k → own k = g
  oav : ∀ k, L.av.ownBlock = some k → own k = g
theorem PRep.ext {own own' : Nat → Nat} {g : Nat} {S : Nat → Prop} {w w' : World} {L : PL} {q : PS} (h : PRep own g w L q) (hx : Ext own own' S w w') (hg : ¬ S g) : PRep own' g w' L q where
  blk := (hx.block _ h.blk.lt (by rw [h.opb]; exact hg)).trans h.blk
  map := h.map.same (hx.block _ h.map.lt (by rw [h.omb]; exact hg))
  plans := h.plans.same fun k hk => hx.block k (h.plans.lt k hk) (by rw [h.opv k hk]; exact hg)
  atts := h.atts.same fun k hk => hx.block k (h.atts.lt k hk) (by rw [h.oav k hk]; exact hg)
  opb := (hx.keep _ h.blk.lt).trans h.opb
  omb := (hx.keep _ h.map.lt).trans h.omb
  opv := fun k hk => (hx.keep k (h.plans.lt k hk)).trans (h.opv k hk)
  oav := fun k hk => (hx.keep k (h.atts.lt k hk)).trans (h.oav k hk)

theorem Blk.sl_ne {w : World} {b : Nat} {cs : Array Value} {T' : TypeId} (h : Blk w b cs T') {v : Value} {T : TypeId} {es n : Nat} {xs : List Value} (hT : T ≠ T') (hs : Sl w v T es n xs) : ∀ k, v.ownBlock = some k → k ≠ b := by
  intro k hk e
  rcases hs.2 with ⟨rfl, _⟩ | ⟨b', off, cap, cs', rfl, hbk, _⟩
  · simp [Value.ownBlock] at hk
  · simp [Value.ownBlock] at hk
    subst hk
    unfold Blk at h hbk
    rw [e, h] at hbk
    cases hbk
    exact hT rfl
theorem PRep.pv_ne {own : Nat → Nat} {g : Nat} {w : World} {L : PL} {q : PS} (h : PRep own g w L q) : ∀ k, L.pv.ownBlock = some k → k ≠ L.pb := h.blk.sl_ne (by decide) h.plans
theorem PRep.av_ne {own : Nat → Nat} {g : Nat} {w : World} {L : PL} {q : PS} (h : PRep own g w L q) : ∀ k, L.av.ownBlock = some k → k ≠ L.pb := h.blk.sl_ne (by decide) h.atts
theorem PRep.mb_ne {own : Nat → Nat} {g : Nat} {w : World} {L : PL} {q : PS} (h : PRep own g w L q) : L.mb ≠ L.pb := fun e => by
  obtain ⟨es, c, h1, _⟩ := h.map
  have h2 := h.blk
  unfold Blk at h2
  rw [e] at h1
  rw [h1] at h2
  cases h2
/-- A slice and a map, or two slices of two types: two blocks. -/
theorem Sl.ne_map {w : World} {b : Nat} {f : Int → Int} (h : MapB w b f) {v : Value} {T : TypeId} {es n : Nat} {xs : List Value} (hs : Sl w v T es n xs) : ∀ k, v.ownBlock = some k → k ≠ b := by
  intro k hk e
  obtain ⟨es', c, h1, _⟩ := h
  rcases hs.2 with ⟨rfl, _⟩ | ⟨b', off, cap, cs', rfl, hbk, _⟩
  · simp [Value.ownBlock] at hk
  · simp [Value.ownBlock] at hk
    subst hk
    unfold Blk at hbk
    rw [e, h1] at hbk
    cases hbk
theorem Sl.ne_sl {w : World} {v v' : Value} {T T' : TypeId} {es n es' n' : Nat} {xs xs' : List Value} (hT : T ≠ T') (h : Sl w v T es n xs) (h' : Sl w v' T' es' n' xs') : ∀ k, v.ownBlock = some k → v'.ownBlock ≠ some k := by
  intro k hk hk'
  rcases h'.2 with ⟨rfl, _⟩ | ⟨b', off, cap, cs', rfl, hbk, _⟩
  · simp [Value.ownBlock] at hk'
  · simp [Value.ownBlock] at hk'
    exact hbk.sl_ne hT h k hk hk'.symm

/-- The port's own row laid anew, nothing else: it still reads. -/
theorem PRep.put {own : Nat → Nat} {g : Nat} {w w' : World} {L : PL} {q q' : PS} (h : PRep own g w L q) (hm : q'.mem = q.mem) (hp : q'.plans = q.plans) (ha : q'.atts = q.atts)
    (hb : Below w.heap.size (put w L.pb (pcells L q') 113) w') : PRep own g w' L q' ∧ Ext own own (· = g) w w' := by
  have hbl : ∀ k, k < w.heap.size → k ≠ L.pb → w'.heap[k]? = w.heap[k]? := fun k hk hne => (hb.block k hk).trans (put_heap_ne w L.pb k _ _ hne)
  have hmb := h.mb_ne
  have hpv := h.pv_ne
  have hav := h.av_ne
  refine ⟨⟨(hb.block _ h.blk.lt).trans (put_heap_same w L.pb _ _ h.blk.lt), ?_, ?_, ?_, h.opb, h.omb, h.opv, h.oav⟩, ⟨hb.os, hb.tape, hb.output, by have := hb.size; rwa [put_size] at this, fun _ _ => rfl, fun k hk hs => hbl k hk (fun e => hs (by rw [e, h.opb]))⟩⟩
  · rw [hm]; exact h.map.same (hbl _ h.map.lt hmb)
  · rw [hp]; exact h.plans.same fun k hk => hbl k (h.plans.lt k hk) (hpv k hk)
  · rw [ha]; exact h.atts.same fun k hk => hbl k (h.atts.lt k hk) (hav k hk)

/-- A port built anew over the old one: its own rows turned, new blocks beside. -/
theorem PRep.again {own : Nat → Nat} {g : Nat} {w w' : World} {L L' : PL} {q q' : PS} (h : PRep own g w L q) (e1 : L'.pb = L.pb) (e2 : L'.mb = L.mb)
    (hb : Blk w' L.pb (pcells L' q') 113) (hm : MapB w' L.mb q'.mem) (hp : Sl w' L'.pv 57 2 q'.plans.length (q'.plans.flatMap planRow)) (ha : Sl w' L'.av 59 7 q'.atts.length (q'.atts.flatMap attRow))
    (np : ∀ k, L'.pv.ownBlock = some k → L.pv.ownBlock = some k ∨ w.heap.size ≤ k) (na : ∀ k, L'.av.ownBlock = some k → L.av.ownBlock = some k ∨ w.heap.size ≤ k)
    (o1 : w'.os = w.os) (o2 : w'.tape = w.tape) (o3 : w'.output = w.output) (o4 : w.heap.size ≤ w'.heap.size)
    (hf : ∀ k, k < w.heap.size → k ≠ L.pb → k ≠ L.mb → L.pv.ownBlock ≠ some k → L.av.ownBlock ≠ some k → w'.heap[k]? = w.heap[k]?) :
    PRep (mark own w.heap.size g) g w' L' q' ∧ Ext own (mark own w.heap.size g) (· = g) w w' := by
  refine ⟨⟨by rw [e1]; exact hb, by rw [e2]; exact hm, hp, ha, by rw [e1, mark_lt h.blk.lt]; exact h.opb, by rw [e2, mark_lt h.map.lt]; exact h.omb, fun k hk => ?_, fun k hk => ?_⟩, ⟨o1, o2, o3, o4, fun k hk => mark_lt hk, fun k hk hs => ?_⟩⟩
  · rcases np k hk with h1 | h1
    · rw [mark_lt (h.plans.lt k h1)]; exact h.opv k h1
    · exact mark_ge h1
  · rcases na k hk with h1 | h1
    · rw [mark_lt (h.atts.lt k h1)]; exact h.oav k h1
    · exact mark_ge h1
  · exact hf k hk (fun e => hs (by rw [e]; exact h.opb)) (fun e => hs (by rw [e]; exact h.omb)) (fun e => hs (h.opv k e)) (fun e => hs (h.oav k e))

theorem tick_rep (own : Nat → Nat) (g : Nat) (L : PL) (q : PS) (w : World) (h : PRep own g w L q) :
    Calls Tryd.prog 68 #[.pointer (some ⟨L.pb, 0, none⟩)] w fun e w' => e = .returned (.tuple #[tickR q, .bool (tickEnds q)]) ∧ PRep own g w' L (tickP q) ∧ Ext own own (· = g) w w' := by
  refine (tick_any L q w h.blk).mono ?_
  rintro e w' ⟨rfl, hb⟩
  exact ⟨rfl, h.put (by unfold tickP; split <;> rfl) (by unfold tickP; split <;> rfl) (by unfold tickP; split <;> rfl) hb⟩

theorem mixed : Tryd.prog.follows .mixedOrders = true := by kernel_rfl
theorem Tryd.info57 : (Tryd.prog.info? 57).map (fun i => (i.zero, i.size, i.bytes)) = some (some (.agg #[.int .u8 0, .int .u32 0]), 2, 8) := by kernel_rfl
theorem Tryd.info59 : (Tryd.prog.info? 59).map (fun i => (i.zero, i.size, i.bytes)) = some (some (.agg #[.int .u8 0, .bool false, .int .u32 0, .int .u32 0, .int .u8 0, .int .u32 0, .bool false]), 7, 24) := by kernel_rfl
theorem cells_new (w : World) (l : List Value) (T : TypeId) (b : Nat) (hb : b = w.heap.size) : ∀ j u, l[j]? = some u → (w.alloc (.cells l.toArray T)).cell? ((⟨b, 0, none⟩ : Addr).add j) = some u := by
  intro j u hj
  rw [addr_add, hb, Nat.zero_add, World.cell?_alloc_new]
  simpa using hj

set_option maxHeartbeats 2000000 in
theorem plan_no (L : PL) (q : PS) (p : PlanD) (hn : 8 ≤ q.plans.length ∨ 6 ≤ p.o) (hmax : q.plans.length ≤ 8) (w : World) (hB : Blk w L.pb (pcells L q) 113) (hp : Sl w L.pv 57 2 q.plans.length (q.plans.flatMap planRow)) :
    Calls Tryd.prog 32 #[.pointer (some ⟨L.pb, 0, none⟩), .agg #[.int .u8 p.o, .int .u32 p.l]] w fun e w' => e = .returned (.bool false) ∧ Below w.heap.size w w' := by
  obtain ⟨a, cap, hv⟩ := hp.form'
  have c1 := hB.cell 1
  simp [pcells, hv] at c1
  have hlt := hB.lt
  clear hv hp hB
  generalize q.plans.length = n at *
  by_cases h8 : 8 ≤ n
  · clear hn
    go_enter Tryd.func32, Tryd.ntmps32
    go_wp2
    go_ret
    exact ⟨rfl, (Below.refl _ _).alloc (Nat.le_refl _) _⟩
  · have ho : 6 ≤ p.o := by omega
    clear hn
    go_enter Tryd.func32, Tryd.ntmps32
    go_wp2
    go_ret
    exact ⟨rfl, (Below.refl _ _).alloc (Nat.le_refl _) _⟩
set_option maxRecDepth 100000 in
set_option maxHeartbeats 2000000 in
theorem plan_yes (own : Nat → Nat) (g : Nat) (L : PL) (q : PS) (p : PlanD) (hn : q.plans.length < 8) (ho : p.o < 6) (w : World) (h : PRep own g w L q) :
    Calls Tryd.prog 32 #[.pointer (some ⟨L.pb, 0, none⟩), .agg #[.int .u8 p.o, .int .u32 p.l]] w fun e w' => e = .returned (.bool true) ∧ ∃ own' L', L'.pb = L.pb ∧ L'.mb = L.mb ∧ PRep own' g w' L' { q with plans := q.plans ++ [p] } ∧ Ext own own' (· = g) w w' := by
  obtain ⟨i0, hi, hz0, hz1, hz2⟩ := info_parts Tryd.info57
  obtain ⟨a, cap, hv⟩ := h.plans.form'
  obtain ⟨n, hnn⟩ : ∃ n, q.plans.length = n := ⟨_, rfl⟩
  rw [hnn] at hv hn
  have HP : Hid (Sl w (.slice a n cap) 57 2 n (q.plans.flatMap planRow)) := by rw [← hv, ← hnn]; exact h.plans
  have c1 := h.blk.cell 1
  simp [pcells, hv] at c1
  have hlt := h.blk.lt
  have Hh : Hid (PRep own g w L q) := h
  have Hv : Hid (L.pv = .slice a n cap) := hv
  have Hnn : Hid (q.plans.length = n) := hnn
  have hne1 : some L.pb ≠ (Value.slice a n cap).ownBlock := by
    intro e
    rw [← hv] at e
    exact PRep.pv_ne h L.pb e.symm rfl
  have hne2 : some w.heap.size ≠ (Value.slice a n cap).ownBlock := by
    intro e
    have := HP.lt _ e.symm
    omega
  clear hv h hnn
  go_enter Tryd.func32, Tryd.ntmps32
  go_wp2
  refine wp_region_float [0, 1, 2, 3, 4, 5] [6, 7, 8, 9, 10] [0, 1, 2, 3] mixed (fun w' => w'.cell? ⟨L.pb, 1, none⟩ = some (.slice a n cap) ∧ w'.cell? ⟨w.heap.size, 0, none⟩ = some (.int .u8 p.o) ∧ w'.cell? ⟨w.heap.size, 1, none⟩ = some (.int .u32 p.l)) (by kernel_rfl) rfl (by kernel_rfl) (by simp [*, go_sem, World.cell?_alloc_lt]) ?_
  iterate 6 refine wpFl_op _ _ _ _ rfl rfl (fun ω hj => by first | (obtain ⟨j1, j2, j3⟩ := hj rfl; go_simp; rfl) | (go_simp; rfl)) ?_
  refine wpFl_nil _ _ ?_
  simp only [Act.put, List.setIfInBounds_toArray]
  refine wpCh_one _ _ _ _ rfl ?_
  go_wp2
  refine ⟨by simp [*, go_sem, World.cell?_alloc_lt], ?_⟩
  refine wpCh_rest _ _ _ _ [_, _, _, _] _ _ rfl (by kernel_rfl) ?_
  simp only [List.getElem_toArray, List.getElem_cons_succ, List.getElem_cons_zero]
  go_wp2_with (at_builtin; refine wpList_append_sl _ rfl (.tmp 20) (.tmp 22) 98 rfl 57 i0 (.agg #[.int .u8 0, .int .u32 0]) 2 8 Tryd.underlying98 hi hz0 hz1 hz2 rfl (by decide) _ _ _ rfl (HP.same ?c0) ⟨w.heap.size + 1, 0, none⟩ 1 1 [.int .u8 p.o, .int .u32 p.l] rfl rfl ?c1 ?c2 ?c3 ?c4 ?_)
  case c0 =>
    intro k hk
    have := HP.lt k hk
    show ((w.alloc _).alloc _).heap[k]? = w.heap[k]?
    rw [Below.heap_alloc _ _ _ (by simp; omega), Below.heap_alloc _ _ _ this]
  case c1 => exact cells_new _ _ _ _ (by simp)
  case c2 => intro u hu; simp at hu; rcases hu with rfl | rfl <;> rfl
  case c3 => unfold maxLen; omega
  case c4 => omega
  intro v' w1 hsl hgr hnew
  obtain ⟨a', cap', rfl⟩ := hsl.form'
  have hw1 : ∀ k, k < w.heap.size → (Value.slice a n cap).ownBlock ≠ some k → w1.heap[k]? = w.heap[k]? := by
    intro k hk hne
    rw [hgr.block k (by simp; omega) (Ne.symm hne)]
    show ((w.alloc _).alloc _).heap[k]? = w.heap[k]?
    rw [Below.heap_alloc _ _ _ (by simp; omega), Below.heap_alloc _ _ _ hk]
  have hsz1 : w.heap.size ≤ w1.heap.size := by have := hgr.size; simp at this; omega
  have o1 : w1.os = w.os := hgr.os
  have o2 : w1.tape = w.tape := hgr.tape
  have o3 : w1.output = w.output := hgr.output
  have HW : Hid (∀ k, (Value.slice a' (n + 1) cap').ownBlock = some k → (Value.slice a n cap).ownBlock = some k ∨ w.heap.size ≤ k) := by
    intro k hk
    rcases hnew k hk with h1 | h1
    · exact .inl h1
    · exact .inr (by first | omega | (simp at h1; omega))
  have hB1 : Blk w1 L.pb (pcells L q) 113 := (hw1 _ hlt (Ne.symm hne1)).trans Hh.out.blk
  have hpb1 : ∀ k, (Value.slice a' (n + 1) cap').ownBlock = some k → k ≠ L.pb := hB1.sl_ne (by decide) hsl
  have H1 : Hid (∀ k, k < w.heap.size → (Value.slice a n cap).ownBlock ≠ some k → w1.heap[k]? = w.heap[k]?) := hw1
  have H2 : Hid (Sl w1 (.slice a' (n + 1) cap') 57 2 (n + 1) (q.plans.flatMap planRow ++ planRow p)) := hsl
  have H3 : Hid (w1.os = w.os ∧ w1.tape = w.tape ∧ w1.output = w.output) := ⟨o1, o2, o3⟩
  clear hw1 hgr hnew hsl o1 o2 o3 c1
  obtain ⟨w2, rfl, hlt2⟩ := hB1.out
  unfold pcells
  clear hB1
  go_wp2
  go_ret
  refine ⟨rfl, _, { L with pv := .slice a' (n + 1) cap' }, rfl, rfl, PRep.again (q' := { q with plans := q.plans ++ [p] }) Hh.out rfl rfl ?_ ?_ ?_ ?_ ?_ ?_ ?_ ?_ ?_ ?_ ?_⟩
  · exact put_heap_same _ _ _ _ hlt2
  · exact Hh.out.map.same ((put_heap_ne _ _ _ _ _ Hh.out.mb_ne).trans ((put_heap_ne w2 _ _ _ _ Hh.out.mb_ne).symm.trans (H1 _ Hh.out.map.lt (fun e => (HP.ne_map Hh.out.map) _ e rfl))))
  · have e1 : (q.plans ++ [p]).length = n + 1 := by rw [List.length_append, Hnn.out]; rfl
    have e2 : (q.plans ++ [p]).flatMap planRow = q.plans.flatMap planRow ++ planRow p := by simp
    show Sl _ (.slice a' (n + 1) cap') 57 2 (q.plans ++ [p]).length ((q.plans ++ [p]).flatMap planRow)
    rw [e1, e2]
    exact H2.same fun k hk => (put_heap_ne _ _ _ _ _ (hpb1 k hk)).trans (put_heap_ne w2 _ _ _ _ (hpb1 k hk)).symm
  · refine Hh.out.atts.same fun k hk => (put_heap_ne _ _ _ _ _ (Hh.out.av_ne k hk)).trans ((put_heap_ne w2 _ _ _ _ (Hh.out.av_ne k hk)).symm.trans (H1 k (Hh.out.atts.lt k hk) (fun e => ?_)))
    exact HP.ne_sl (by decide) Hh.out.atts k e hk
  · intro k hk
    rw [Hv.out]
    exact HW k hk
  · exact fun k hk => .inl hk
  · exact H3.1
  · exact H3.2.1
  · exact H3.2.2
  · rw [put_size] at hsz1 ⊢; exact hsz1
  · intro k hk n1 n2 n3 n4
    rw [Hv.out] at n3
    exact (put_heap_ne _ _ _ _ _ n1).trans ((put_heap_ne w2 _ _ _ _ n1).symm.trans (H1 k hk n3))
end Go.Proofs.Qxb6500750aDoor
