import Derived.Test.Qxb6500750aDoorPort
import Derived.Deep.DeepCutAuto
import Derived.Deep.Draws
import Derived.Deep.CutBlock
namespace Go.Proofs.Qxb6500750aDoor
open Go.RowKit
attribute [local go_sem] put_size put_cell_same put_cell_ne put_frozen_same put_frozen_ne put_setCell_same put_setCell_ne put_drew

/-! ### What Send makes of the port -/
def headPlan (q : PS) : PlanD := match q.plans with | [] => ⟨0, 0⟩ | p :: _ => p
def actB (o : Int) : Bool := o == 0 || o == 3 || o == 4
def answers (o : Int) : Bool := o == 0 || o == 1 || o == 2 || o == 3
def sendStatus (o : Int) : Int := if o == 1 then 1 else if o == 2 then 2 else if o == 3 then 3 else 0
def sendRead (q : PS) (r : LReq) : Int := if (headPlan q).o == 0 && !r.w then q.mem r.ad else 0
def sendMem (q : PS) (r : LReq) : Int → Int := if actB (headPlan q).o && r.w then (fun x => if x = r.ad then r.da else q.mem x) else q.mem
def sendDue (p : PlanD) : Int := if answers p.o && decide (p.l < 64) then p.l + 1 else 0
def sendP (q : PS) (r : LReq) : PS :=
  { mem := sendMem q r, plans := q.plans.tail, atts := q.atts ++ [⟨r, headPlan q, actB (headPlan q).o⟩], busy := true, wt := 0, due := sendDue (headPlan q), rid := r.id, rst := sendStatus (headPlan q).o, rda := sendRead q r }

theorem drewN_setCell (w : World) (n : Nat) (a : Addr) (v : Value) : (w.drewN n).setCell a v = (w.setCell a v).drewN n := rfl
theorem drewN_alloc (w : World) (n : Nat) (o : Obj) : (w.drewN n).alloc o = (w.alloc o).drewN n := rfl
theorem drewN_put (w : World) (n b : Nat) (cs : Array Value) (T : TypeId) : put (w.drewN n) b cs T = (put w b cs T).drewN n := rfl
attribute [local go_sem] drewN_setCell drewN_alloc drewN_put
/-- One block alone has turned. -/
structure Swap (w w' : World) (b : Nat) : Prop where
  os : w'.os = w.os
  tape : w'.tape = w.tape
  output : w'.output = w.output
  size : w'.heap.size = w.heap.size
  block : ∀ k, k ≠ b → w'.heap[k]? = w.heap[k]?
theorem Swap.refl (w : World) (b : Nat) : Swap w w b := ⟨rfl, rfl, rfl, rfl, fun _ _ => rfl⟩
theorem putO_put (w : World) (b b' : Nat) (o : Obj) (cs : Array Value) (T : TypeId) (h : b ≠ b') : putO (put w b' cs T) b o = put (putO w b o) b' cs T := by
  simp only [putO, put]
  rw [Array.setIfInBounds_comm _ _ (Ne.symm h)]
theorem putO_alloc (w : World) (b : Nat) (o x : Obj) (h : b < w.heap.size) : putO (w.alloc x) b o = (putO w b o).alloc x := by
  simp only [World.alloc, putO]
  congr 1
  apply Array.ext_getElem?
  intro i
  rw [Array.getElem?_push]
  by_cases e : b = i
  · subst e
    have : b ≠ w.heap.size := by omega
    simp [h, this, Array.getElem?_setIfInBounds]
    omega
  · rw [Array.getElem?_setIfInBounds_ne e, Array.getElem?_push, Array.getElem?_setIfInBounds_ne e, Array.size_setIfInBounds]
theorem putO_drewN (w : World) (b n : Nat) (o : Obj) : putO (w.drewN n) b o = (putO w b o).drewN n := rfl
theorem putO_size (w : World) (b : Nat) (o : Obj) : (putO w b o).heap.size = w.heap.size := by simp [putO]
theorem putO_heap_ne (w : World) (b k : Nat) (o : Obj) (h : k ≠ b) : (putO w b o).heap[k]? = w.heap[k]? := by simp [putO, Array.getElem?_setIfInBounds_ne (Ne.symm h)]
theorem putO_heap_same (w : World) (b : Nat) (o : Obj) (h : b < w.heap.size) : (putO w b o).heap[b]? = some o := by simp [putO, h]
theorem Swap.putO (w : World) (b : Nat) (o : Obj) : Swap w (putO w b o) b := ⟨rfl, rfl, rfl, putO_size w b o, fun k hk => putO_heap_ne w b k o hk⟩
theorem hid_of {P : Prop} (h : P) : Hid P := h
theorem Sl.zero_form {w : World} {v : Value} {T : TypeId} {es n : Nat} {xs : List Value} (h : Sl w v T es n xs) : ∃ a cap, v = .slice a n cap := h.form'

set_option maxRecDepth 100000 in
set_option maxHeartbeats 4000000 in
theorem send_any (own : Nat → Nat) (g : Nat) (L : PL) (q : PS) (r : LReq) (hb : q.busy = false) (w : World) (h : PRep own g w L q)
    (hpl : ∀ p ∈ q.plans, 0 ≤ p.o ∧ p.o < 6 ∧ 0 ≤ p.l ∧ p.l < 4294967296) (hn : q.plans.length ≤ 8) (ha : q.atts.length < 1000000000) :
    Calls Tryd.prog 69 #[.pointer (some ⟨L.pb, 0, none⟩), .agg #[.int .u8 r.id, .bool r.w, .int .u32 r.ad, .int .u32 r.da]] w fun e w' => e = .returned (.bool true) ∧ ∃ own' L', L'.pb = L.pb ∧ L'.mb = L.mb ∧ PRep own' g w' L' (sendP q r) ∧ Ext own own' (· = g) w w' := by
  obtain ⟨i0, hi, hz0, hz1, hz2⟩ := info_parts Tryd.info59
  obtain ⟨a, cap, hv⟩ := h.plans.form'
  obtain ⟨a2, cap2, hv2⟩ := h.atts.form'
  obtain ⟨n, hnn⟩ : ∃ n, q.plans.length = n := ⟨_, rfl⟩
  obtain ⟨n2, hnn2⟩ : ∃ n, q.atts.length = n := ⟨_, rfl⟩
  rw [hnn] at hv hn
  rw [hnn2] at hv2 ha
  have Hh : Hid (PRep own g w L q) := h
  have hB := h.blk
  have hlt := h.blk.lt
  have e0 : pcells L q = #[.map (some L.mb), .slice a n cap, .slice a2 n2 cap2, .bool false, .int .u32 q.wt, .int .u32 q.due, .int .u8 q.rid, .int .u8 q.rst, .int .u32 q.rda] := by simp [pcells, hb, hv, hv2]
  rw [e0] at hB
  obtain ⟨pl, hpl0⟩ : ∃ p, headPlan q = p := ⟨_, rfl⟩
  have hpo : 0 ≤ pl.o ∧ pl.o < 6 ∧ 0 ≤ pl.l ∧ pl.l < 4294967296 := by
    rw [← hpl0]; unfold headPlan
    cases hq : q.plans with
    | nil => simp
    | cons p rest => exact hpl p (by rw [hq]; simp)
  have HPl : Hid (headPlan q = pl) := hpl0
  clear hpl0
  have Hpl : Hid (∀ p ∈ q.plans, 0 ≤ p.o ∧ p.o < 6 ∧ 0 ≤ p.l ∧ p.l < 4294967296) := hpl
  have HV : Hid (L.pv = .slice a n cap ∧ L.av = .slice a2 n2 cap2 ∧ q.plans.length = n ∧ q.atts.length = n2) := ⟨hv, hv2, hnn, hnn2⟩
  clear e0 hv hv2 hnn hnn2 h hb hpl
  obtain ⟨w0, rfl, hlt0⟩ := hB.out
  clear hB
  go_enter Tryd.func69, Tryd.ntmps69
  go_upto_if 18 with fail
  go_cut [] (fun wc => ∃ (a' : Option Addr) (m cap' k : Nat), wc = (((put w0 L.pb #[.map (some L.mb), .slice a' m cap', .slice a2 n2 cap2, .bool false, .int .u32 q.wt, .int .u32 q.due, .int .u8 q.rid, .int .u8 q.rst, .int .u32 q.rda] 113).alloc (.cells #[.int .u8 r.id, .bool r.w, .int .u32 r.ad, .int .u32 r.da] 54)).alloc (.cells #[.int .u8 pl.o, .int .u32 pl.l] 57)).drewN k ∧
      Sl (put w0 L.pb #[.map (some L.mb), .slice a n cap, .slice a2 n2 cap2, .bool false, .int .u32 q.wt, .int .u32 q.due, .int .u8 q.rid, .int .u8 q.rst, .int .u32 q.rda] 113) (.slice a' m cap') 57 2 q.plans.tail.length (q.plans.tail.flatMap planRow) ∧ (∀ k, (Value.slice a' m cap').ownBlock = some k → (Value.slice a n cap).ownBlock = some k))
  case first =>
    by_cases hn0 : n = 0
    · subst hn0
      go_wp2
      go_meet
      have hq : q.plans = [] := List.eq_nil_of_length_eq_zero HV.2.2.1
      refine ⟨a, 0, cap, 0, ?_, ?_, fun k hk => hk⟩
      · rw [← HPl.out]; simp only [headPlan, hq]; rfl
      · have := Hh.out.plans
        rw [HV.1, hq] at this
        rw [hq]; exact this
    · obtain ⟨p, rest, hq⟩ : ∃ p rest, q.plans = p :: rest := by
        cases hq : q.plans with
        | nil => rw [hq] at HV; exact absurd HV.2.2.1.symm hn0
        | cons p rest => exact ⟨p, rest, rfl⟩
      have hp := Hh.out.plans
      rw [HV.1, HV.2.2.1] at hp
      obtain ⟨b, off, cap', hsv, hcn, hbl⟩ := hp.form (by omega)
      cases hsv
      have k0 := hp.cell rfl 0 (by rw [hq]; simp [planRow])
      have k1 := hp.cell rfl 1 (by rw [hq]; simp [planRow])
      rw [hq] at k0 k1
      simp [planRow] at k0 k1
      have hne : b ≠ L.pb := Hh.out.pv_ne b (by rw [HV.1]; rfl)
      rw [put_cell_ne _ _ _ _ _ _ _ hne] at k0 k1
      have hb0 : b < w0.heap.size := by simpa [put_size] using hbl
      have Hp : Hid (Sl (put w0 L.pb #[.map (some L.mb), .slice (some ⟨b, off, none⟩) n cap, .slice a2 n2 cap2, .bool false, .int .u32 q.wt, .int .u32 q.due, .int .u8 q.rid, .int .u8 q.rst, .int .u32 q.rda] 113) (.slice (some ⟨b, off, none⟩) n cap) 57 2 n (q.plans.flatMap planRow)) := hp
      have Hq : Hid (q.plans = p :: rest) := hq
      have h1n : (1 : Int) ≤ (n : Int) := by omega
      clear hp hq hbl
      by_cases hc1 : cap = 1
      · subst hc1
        go_wp2
        refine wp_region_float [0, 1, 2, 3, 4, 5, 6, 7, 8, 9, 10, 11] [12, 13, 14, 15] [0, 1, 2, 3, 5, 7, 8, 9, 11] mixed (fun w' => w'.cell? ⟨L.pb, 1, none⟩ = some (.slice (some ⟨b, off, none⟩) n 1) ∧ w'.cell? ⟨b, off, none⟩ = some (.int .u8 p.o) ∧ w'.cell? ⟨b, off + 1, none⟩ = some (.int .u32 p.l)) (by kernel_rfl) rfl (by kernel_rfl) (by simp [*, go_sem, World.cell?_alloc_lt]) ?_
        iterate 12 refine wpFl_op _ _ _ _ rfl rfl (fun ω hj => by first | (obtain ⟨j1, j2, j3⟩ := hj rfl; go_simp; rfl) | (go_simp; rfl)) ?_
        refine wpFl_nil _ _ ?_
        simp only [Act.put, List.setIfInBounds_toArray]
        refine wpCh_one _ _ _ _ rfl ?_
        simp only [List.getElem_toArray, List.getElem_cons_succ, List.getElem_cons_zero]
        go_wp2
        refine ⟨by simp [*, go_sem, World.cell?_alloc_lt], ?_⟩
        refine wpCh_rest _ _ _ _ [_, _, _] _ _ rfl (by kernel_rfl) ?_
        simp only [List.getElem_toArray, List.getElem_cons_succ, List.getElem_cons_zero]
        go_wp2
        go_meet
        case rel =>
          have hl : n = rest.length + 1 := by have := HV.2.2.1; rw [Hq.out] at this; simpa using this.symm
          subst hl
          have ht := Hp.out.tail rfl
          have hr0 : rest.length = 0 := by omega
          refine ⟨some ⟨b, off, none⟩, 0, 0, 1, ?_, ?_, fun k hk => hk⟩
          · rw [← HPl.out]; simp only [headPlan, Hq.out]; rfl
          · rw [Hq.out] at ht ⊢
            have e1 : (List.flatMap planRow (p :: rest)).drop 2 = rest.flatMap planRow := by simp [planRow]
            rw [e1, if_pos rfl] at ht
            show Sl _ _ 57 2 rest.length _
            rw [hr0] at ht ⊢
            exact ht
      · have hc1' : (cap = 1) = False := by simp [hc1]
        go_wp2
        refine wp_region_float [0, 1, 2, 3, 4, 5, 6, 7, 8, 9, 10, 11] [12, 13, 14, 15] [0, 1, 2, 3, 5, 7, 8, 9, 11] mixed (fun w' => w'.cell? ⟨L.pb, 1, none⟩ = some (.slice (some ⟨b, off, none⟩) n cap) ∧ w'.cell? ⟨b, off, none⟩ = some (.int .u8 p.o) ∧ w'.cell? ⟨b, off + 1, none⟩ = some (.int .u32 p.l)) (by kernel_rfl) rfl (by kernel_rfl) (by simp [*, go_sem, World.cell?_alloc_lt]) ?_
        iterate 12 refine wpFl_op _ _ _ _ rfl rfl (fun ω hj => by first | (obtain ⟨j1, j2, j3⟩ := hj rfl; go_simp; rfl) | (go_simp; rfl)) ?_
        refine wpFl_nil _ _ ?_
        simp only [Act.put, List.setIfInBounds_toArray]
        refine wpCh_one _ _ _ _ rfl ?_
        simp only [List.getElem_toArray, List.getElem_cons_succ, List.getElem_cons_zero]
        go_wp2
        refine ⟨by simp [*, go_sem, World.cell?_alloc_lt], ?_⟩
        refine wpCh_rest _ _ _ _ [_, _, _] _ _ rfl (by kernel_rfl) ?_
        simp only [List.getElem_toArray, List.getElem_cons_succ, List.getElem_cons_zero]
        go_wp2
        go_meet
        case rel =>
          have hl : n = rest.length + 1 := by have := HV.2.2.1; rw [Hq.out] at this; simpa using this.symm
          subst hl
          have ht := Hp.out.tail rfl
          refine ⟨some ⟨b, off + 2, none⟩, rest.length, cap - 1, 1, ?_, ?_, fun k hk => hk⟩
          · rw [← HPl.out]; simp only [headPlan, Hq.out]; rfl
          · rw [Hq.out] at ht ⊢
            have e1 : (List.flatMap planRow (p :: rest)).drop 2 = rest.flatMap planRow := by simp [planRow]
            rw [e1, if_neg hc1] at ht
            exact ht
  case rest =>
    obtain ⟨a', m, cap', k, rfl, HT, HO⟩ := hcut
    have HT' : Hid (Sl (put w0 L.pb #[.map (some L.mb), .slice a n cap, .slice a2 n2 cap2, .bool false, .int .u32 q.wt, .int .u32 q.due, .int .u8 q.rid, .int .u8 q.rst, .int .u32 q.rda] 113) (.slice a' m cap') 57 2 q.plans.tail.length (q.plans.tail.flatMap planRow) ∧ (∀ k, (Value.slice a' m cap').ownBlock = some k → (Value.slice a n cap).ownBlock = some k)) := ⟨HT, HO⟩
    clear HT HO
    obtain ⟨p1, p2, p3, p4⟩ := hpo
    go_upto_region 8 with fail
    go_cut [6] (fun s wc => ∃ ab, s = .bool ab ∧ Hid (actB pl.o = ab) ∧ wc = (((put w0 L.pb #[.map (some L.mb), .slice a' m cap', .slice a2 n2 cap2, .bool true, .int .u32 0, .int .u32 0, .int .u8 r.id, .int .u8 0, .int .u32 0] 113).alloc (.cells #[.int .u8 r.id, .bool r.w, .int .u32 r.ad, .int .u32 r.da] 54)).alloc (.cells #[.int .u8 pl.o, .int .u32 pl.l] 57)).drewN k)
    case first =>
      have hc : pl.o = 0 ∨ pl.o = 3 ∨ pl.o = 4 ∨ (pl.o ≠ 0 ∧ pl.o ≠ 3 ∧ pl.o ≠ 4) := by omega
      rcases hc with hc | hc | hc | ⟨h0, h3, h4⟩
      · have hc' : (pl.o == 0) = true := by simp [hc]
        have ha' : actB pl.o = true := by simp [actB, hc]
        have HA := hid_of ha'
        clear hc ha'
        go_wp2
        go_meet
        case rel => exact ⟨_, rfl, HA, rfl⟩
      · have hc' : (pl.o == 0) = false := by simp [hc]
        have hc2 : (pl.o == 3) = true := by simp [hc]
        have ha' : actB pl.o = true := by simp [actB, hc]
        have HA := hid_of ha'
        clear hc ha'
        go_wp2
        go_meet
        case rel => exact ⟨_, rfl, HA, rfl⟩
      · have hc' : (pl.o == 0) = false := by simp [hc]
        have hc2 : (pl.o == 3) = false := by simp [hc]
        have hc3 : (pl.o == 4) = true := by simp [hc]
        have ha' : actB pl.o = true := by simp [actB, hc]
        have HA := hid_of ha'
        clear hc ha'
        go_wp2
        go_meet
        case rel => exact ⟨_, rfl, HA, rfl⟩
      · have hc' : (pl.o == 0) = false := by simp [h0]
        have hc2 : (pl.o == 3) = false := by simp [h3]
        have hc3 : (pl.o == 4) = false := by simp [h4]
        have ha' : actB pl.o = false := by simp [actB, h0, h3, h4]
        have HA := hid_of ha'
        clear h0 h3 h4 ha'
        go_wp2
        go_meet
        case rel => exact ⟨_, rfl, HA, rfl⟩
    case rest =>
      obtain ⟨ab, rfl, HA, rfl⟩ := hcut
      have hmne := Hh.out.mb_ne
      have HM : Hid (MapB w0 L.mb q.mem) := Hh.out.map.same (put_heap_ne _ _ _ _ _ hmne).symm
      have HW0 : Hid True := trivial
      go_upto_region 10 with fail
      go_cut [65] (fun s wc => ∃ wb, s = .bool wb ∧ Hid ((ab && r.w) = wb) ∧ wc = (((put w0 L.pb #[.map (some L.mb), .slice a' m cap', .slice a2 n2 cap2, .bool true, .int .u32 0, .int .u32 0, .int .u8 r.id, .int .u8 0, .int .u32 0] 113).alloc (.cells #[.int .u8 r.id, .bool r.w, .int .u32 r.ad, .int .u32 r.da] 54)).alloc (.cells #[.int .u8 pl.o, .int .u32 pl.l] 57)).drewN k)
      case first =>
        cases ab
        · go_wp2
          go_meet
          case rel => exact ⟨_, rfl, by simp [Hid], rfl⟩
        · go_wp2
          go_meet
          case rel => exact ⟨_, rfl, by simp [Hid], rfl⟩
      case rest =>
      obtain ⟨wb, rfl, HB, rfl⟩ := hcut
      go_upto_if 65 with fail
      go_cut [] (fun wc => ∃ (w1 : World) (k : Nat), wc = (((put w1 L.pb #[.map (some L.mb), .slice a' m cap', .slice a2 n2 cap2, .bool true, .int .u32 0, .int .u32 0, .int .u8 r.id, .int .u8 0, .int .u32 0] 113).alloc (.cells #[.int .u8 r.id, .bool r.w, .int .u32 r.ad, .int .u32 r.da] 54)).alloc (.cells #[.int .u8 pl.o, .int .u32 pl.l] 57)).drewN k ∧ Hid (MapB w1 L.mb (sendMem q r)) ∧ Swap w0 w1 L.mb)
      case first =>
        cases wb
        · go_wp2
          go_meet
          case rel => 
            refine ⟨w0, _, rfl, ?_, Swap.refl _ _⟩
            have : sendMem q r = q.mem := by simp only [sendMem, HPl.out, HA.out, HB.out]; rfl
            rw [this]
            exact HM
        · have hM1 : MapB ((((put w0 L.pb #[.map (some L.mb), .slice a' m cap', .slice a2 n2 cap2, .bool true, .int .u32 0, .int .u32 0, .int .u8 r.id, .int .u8 0, .int .u32 0] 113).alloc (.cells #[.int .u8 r.id, .bool r.w, .int .u32 r.ad, .int .u32 r.da] 54)).alloc (.cells #[.int .u8 pl.o, .int .u32 pl.l] 57)).drewN (k + 1)) L.mb q.mem := by
            have hl := HM.out.lt
            refine HM.out.same ?_
            show (((put w0 L.pb _ 113).alloc _).alloc _).heap[L.mb]? = w0.heap[L.mb]?
            rw [Below.heap_alloc _ _ _ (by simp [put_size]; omega), Below.heap_alloc _ _ _ (by simp [put_size]; omega), put_heap_ne _ _ _ _ _ hmne]
          obtain ⟨es, c, hrun, hM2⟩ := run_update_words (P := Tryd.prog) hM1 Tryd.underlying87 Tryd.underlying29 r.ad r.da
          clear hM1
          go_wp2
          refine wp_region_float [0, 1, 2, 3, 4, 5, 6, 7] [8] [0, 1, 2, 4, 6] mixed (fun ω => ω = ((((put w0 L.pb #[.map (some L.mb), .slice a' m cap', .slice a2 n2 cap2, .bool true, .int .u32 0, .int .u32 0, .int .u8 r.id, .int .u8 0, .int .u32 0] 113).alloc (.cells #[.int .u8 r.id, .bool r.w, .int .u32 r.ad, .int .u32 r.da] 54)).alloc (.cells #[.int .u8 pl.o, .int .u32 pl.l] 57)).drewN k).drew) (by kernel_rfl) rfl (by kernel_rfl) rfl ?_
          iterate 8 refine wpFl_op _ _ _ _ rfl rfl (fun ω hj => by first | (obtain rfl := hj rfl; go_simp; rfl) | (go_simp; rfl)) ?_
          refine wpFl_nil _ _ ?_
          simp only [Act.put, List.setIfInBounds_toArray]
          refine wpCh_rest _ _ _ _ [_] _ _ rfl (by kernel_rfl) ?_
          simp only [List.getElem_toArray, List.getElem_cons_succ, List.getElem_cons_zero]
          go_wp2
          go_meet
          case rel =>
            have hl := HM.out.lt
            refine ⟨putO w0 L.mb (.map es c), k + 1, ?_, ?_, Swap.putO _ _ _⟩
            · rw [putO_drewN, putO_alloc _ _ _ _ (by simp [put_size]; omega), putO_alloc _ _ _ _ (by simp [put_size]; omega), putO_put _ _ _ _ _ _ hmne]
            · have : sendMem q r = fun x => if x = r.ad then r.da else q.mem x := by simp only [sendMem, HPl.out, HA.out, HB.out]; rfl
              rw [this]
              obtain ⟨es', c', h1, h2⟩ := hM2
              refine ⟨es', c', ?_, h2⟩
              rw [putO_heap_same _ _ _ (by simp [put_size]; omega)] at h1
              rw [putO_heap_same _ _ _ hl]
              exact h1
      case rest =>
      obtain ⟨w1, k1, rfl, HM1, HS⟩ := hcut
      have hsz1 := HS.size
      have hlt1 : L.pb < w1.heap.size := by omega
      have HM0 := HM
      clear HM
      go_upto_region 12 with fail
      go_cut [79] (fun s wc => ∃ rb, s = .bool rb ∧ Hid ((ab && !r.w) = rb) ∧ wc = (((put w1 L.pb #[.map (some L.mb), .slice a' m cap', .slice a2 n2 cap2, .bool true, .int .u32 0, .int .u32 0, .int .u8 r.id, .int .u8 0, .int .u32 0] 113).alloc (.cells #[.int .u8 r.id, .bool r.w, .int .u32 r.ad, .int .u32 r.da] 54)).alloc (.cells #[.int .u8 pl.o, .int .u32 pl.l] 57)).drewN k1)
      case first =>
        cases ab
        · go_wp2
          go_meet
          case rel => exact ⟨_, rfl, by simp [Hid], rfl⟩
        · go_wp2
          go_meet
          case rel => exact ⟨_, rfl, by simp [Hid], rfl⟩
      case rest =>
      obtain ⟨rb, rfl, HR, rfl⟩ := hcut
      go_upto_if 79 with fail
      go_cut [7] (fun s wc => ∃ (v : Int) (k : Nat), s = .int .u32 v ∧ Hid ((if (ab && !r.w) = true then q.mem r.ad else 0) = v) ∧ wc = (((put w1 L.pb #[.map (some L.mb), .slice a' m cap', .slice a2 n2 cap2, .bool true, .int .u32 0, .int .u32 0, .int .u8 r.id, .int .u8 0, .int .u32 0] 113).alloc (.cells #[.int .u8 r.id, .bool r.w, .int .u32 r.ad, .int .u32 r.da] 54)).alloc (.cells #[.int .u8 pl.o, .int .u32 pl.l] 57)).drewN k)
      case first =>
        cases rb
        · go_wp2
          go_meet
          case rel => exact ⟨_, _, rfl, (by simp [Hid, HR.out]), rfl⟩
        · have hM1 : MapB ((((put w1 L.pb #[.map (some L.mb), .slice a' m cap', .slice a2 n2 cap2, .bool true, .int .u32 0, .int .u32 0, .int .u8 r.id, .int .u8 0, .int .u32 0] 113).alloc (.cells #[.int .u8 r.id, .bool r.w, .int .u32 r.ad, .int .u32 r.da] 54)).alloc (.cells #[.int .u8 pl.o, .int .u32 pl.l] 57)).drewN (k1 + 1)) L.mb q.mem := by
            have hl := HM1.out.lt
            have e : sendMem q r = q.mem := by
              have h1 := HR.out
              have h2 : r.w = false := by revert h1; cases r.w <;> cases ab <;> decide
              simp only [sendMem, h2, Bool.and_false, Bool.false_eq_true, if_false]
            rw [e] at HM1
            refine HM1.out.same ?_
            show (((put w1 L.pb _ 113).alloc _).alloc _).heap[L.mb]? = w1.heap[L.mb]?
            rw [Below.heap_alloc _ _ _ (by simp [put_size]; omega), Below.heap_alloc _ _ _ (by simp [put_size]; omega), put_heap_ne _ _ _ _ _ hmne]
          have hl := run_lookup_words (P := Tryd.prog) hM1 Tryd.underlying87 Tryd.underlying29 zero29 r.ad
          clear hM1
          go_wp2
          refine wp_region_float [0, 1, 2, 3, 4, 5, 6, 7] [] [0, 1, 2, 4, 7] mixed (fun ω => ω = ((((put w1 L.pb #[.map (some L.mb), .slice a' m cap', .slice a2 n2 cap2, .bool true, .int .u32 0, .int .u32 0, .int .u8 r.id, .int .u8 0, .int .u32 0] 113).alloc (.cells #[.int .u8 r.id, .bool r.w, .int .u32 r.ad, .int .u32 r.da] 54)).alloc (.cells #[.int .u8 pl.o, .int .u32 pl.l] 57)).drewN k1).drew) (by kernel_rfl) rfl (by kernel_rfl) rfl ?_
          iterate 8 refine wpFl_op _ _ _ _ rfl rfl (fun ω hj => by first | (obtain rfl := hj rfl; go_simp; rfl) | (go_simp; rfl)) ?_
          refine wpFl_nil _ _ ?_
          simp only [Act.put, List.setIfInBounds_toArray]
          refine wpCh_rest _ _ _ _ [] _ _ rfl (by kernel_rfl) ?_
          go_simp
          go_wp2
          go_meet
          case rel => exact ⟨_, _, rfl, by simp [Hid, HR.out], rfl⟩
      case rest =>
      obtain ⟨v, k, rfl, HVv, rfl⟩ := hcut
      go_upto_block 0 with fail
      go_cut [8] (fun s wc => ∃ (tb : Bool) (st da : Int), s = .bool tb ∧ Hid (answers pl.o = tb) ∧ Hid (sendStatus pl.o = st) ∧ Hid ((if (pl.o == 0) = true then v else 0) = da) ∧ wc = (((put w1 L.pb #[.map (some L.mb), .slice a' m cap', .slice a2 n2 cap2, .bool true, .int .u32 0, .int .u32 0, .int .u8 r.id, .int .u8 st, .int .u32 da] 113).alloc (.cells #[.int .u8 r.id, .bool r.w, .int .u32 r.ad, .int .u32 r.da] 54)).alloc (.cells #[.int .u8 pl.o, .int .u32 pl.l] 57)).drewN k)
      case first =>
        have hc : pl.o = 0 ∨ pl.o = 1 ∨ pl.o = 2 ∨ pl.o = 3 ∨ (pl.o ≠ 0 ∧ pl.o ≠ 1 ∧ pl.o ≠ 2 ∧ pl.o ≠ 3) := by omega
        rcases hc with hc | hc | hc | hc | hc
        · have h0 : (pl.o == 0) = true := by simp [hc]
          have k1' : answers pl.o = true := by simp [answers, hc]
          have k2' : sendStatus pl.o = 0 := by simp [sendStatus, hc]
          have k3' : (if (pl.o == 0) = true then v else 0) = v := by simp [hc]
          have K1 := hid_of k1'
          have K2 := hid_of k2'
          have K3 := hid_of k3'
          clear k1' k2' k3' hc
          go_wp2
          go_meet
          case rel => exact ⟨_, _, _, rfl, K1, K2, K3, rfl⟩
        · have h0 : (pl.o == 0) = false := by simp [hc]
          have h1 : (pl.o == 1) = true := by simp [hc]
          have k1' : answers pl.o = true := by simp [answers, hc]
          have k2' : sendStatus pl.o = 1 := by simp [sendStatus, hc]
          have k3' : (if (pl.o == 0) = true then v else 0) = 0 := by simp [hc]
          have K1 := hid_of k1'
          have K2 := hid_of k2'
          have K3 := hid_of k3'
          clear k1' k2' k3' hc
          go_wp2
          go_meet
          case rel => exact ⟨_, _, _, rfl, K1, K2, K3, rfl⟩
        · have h0 : (pl.o == 0) = false := by simp [hc]
          have h1 : (pl.o == 1) = false := by simp [hc]
          have h2 : (pl.o == 2) = true := by simp [hc]
          have k1' : answers pl.o = true := by simp [answers, hc]
          have k2' : sendStatus pl.o = 2 := by simp [sendStatus, hc]
          have k3' : (if (pl.o == 0) = true then v else 0) = 0 := by simp [hc]
          have K1 := hid_of k1'
          have K2 := hid_of k2'
          have K3 := hid_of k3'
          clear k1' k2' k3' hc
          go_wp2
          go_meet
          case rel => exact ⟨_, _, _, rfl, K1, K2, K3, rfl⟩
        · have h0 : (pl.o == 0) = false := by simp [hc]
          have h1 : (pl.o == 1) = false := by simp [hc]
          have h2 : (pl.o == 2) = false := by simp [hc]
          have h3 : (pl.o == 3) = true := by simp [hc]
          have k1' : answers pl.o = true := by simp [answers, hc]
          have k2' : sendStatus pl.o = 3 := by simp [sendStatus, hc]
          have k3' : (if (pl.o == 0) = true then v else 0) = 0 := by simp [hc]
          have K1 := hid_of k1'
          have K2 := hid_of k2'
          have K3 := hid_of k3'
          clear k1' k2' k3' hc
          go_wp2
          go_meet
          case rel => exact ⟨_, _, _, rfl, K1, K2, K3, rfl⟩
        · have h0 : (pl.o == 0) = false := by simp [hc.1]
          have h1 : (pl.o == 1) = false := by simp [hc.2.1]
          have h2 : (pl.o == 2) = false := by simp [hc.2.2.1]
          have h3 : (pl.o == 3) = false := by simp [hc.2.2.2]
          have k1' : answers pl.o = false := by simp [answers, hc]
          have k2' : sendStatus pl.o = 0 := by simp [sendStatus, hc]
          have k3' : (if (pl.o == 0) = true then v else 0) = 0 := by simp [hc]
          have K1 := hid_of k1'
          have K2 := hid_of k2'
          have K3 := hid_of k3'
          clear k1' k2' k3' hc
          go_wp2
          go_meet
          case rel => exact ⟨_, _, _, rfl, K1, K2, K3, rfl⟩
      case rest =>
      obtain ⟨tb, st, da, rfl, HA1, HA2, HA3, rfl⟩ := hcut
      go_upto_region 25 with fail
      go_cut [123] (fun s wc => ∃ db, s = .bool db ∧ Hid ((tb && decide (pl.l < 64)) = db) ∧ wc = (((put w1 L.pb #[.map (some L.mb), .slice a' m cap', .slice a2 n2 cap2, .bool true, .int .u32 0, .int .u32 0, .int .u8 r.id, .int .u8 st, .int .u32 da] 113).alloc (.cells #[.int .u8 r.id, .bool r.w, .int .u32 r.ad, .int .u32 r.da] 54)).alloc (.cells #[.int .u8 pl.o, .int .u32 pl.l] 57)).drewN k)
      case first =>
        cases tb
        · go_wp2
          go_meet
          case rel => exact ⟨_, rfl, by simp [Hid], rfl⟩
        · by_cases hl : pl.l < 64
          · have hl' := hid_of hl
            go_wp2
            go_meet
            case rel => exact ⟨_, rfl, by simp [Hid, hl], rfl⟩
          · have hl' := hid_of hl
            go_wp2
            go_meet
            case rel => exact ⟨_, rfl, by simp only [Hid, Bool.true_and, decide_eq_false_iff_not, Int.not_lt]; exact hl'.out, rfl⟩
      case rest =>
      obtain ⟨db, rfl, HD, rfl⟩ := hcut
      go_upto_if 123 with fail
      go_cut [] (fun wc => ∃ due, Hid (sendDue pl = due) ∧ wc = (((put w1 L.pb #[.map (some L.mb), .slice a' m cap', .slice a2 n2 cap2, .bool true, .int .u32 0, .int .u32 due, .int .u8 r.id, .int .u8 st, .int .u32 da] 113).alloc (.cells #[.int .u8 r.id, .bool r.w, .int .u32 r.ad, .int .u32 r.da] 54)).alloc (.cells #[.int .u8 pl.o, .int .u32 pl.l] 57)).drewN k)
      case first =>
        cases db
        · go_wp2
          go_meet
          case rel => exact ⟨_, by simp only [Hid, sendDue, HA1.out, HD.out]; rfl, rfl⟩
        · go_wp2
          go_meet
          case rel =>
            refine ⟨_, ?_, rfl⟩
            have h1 := HD.out
            simp only [Bool.and_eq_true, decide_eq_true_eq] at h1
            simp only [Hid, sendDue, HA1.out, HD.out, if_true]
            omega
      case rest =>
      obtain ⟨due, HE, rfl⟩ := hcut
      have HAt : Hid (Sl w1 (.slice a2 n2 cap2) 59 7 n2 (q.atts.flatMap attRow)) := by
        have h1 := Hh.out.atts
        rw [HV.2.1, HV.2.2.2] at h1
        refine h1.same fun k hk => ?_
        rw [put_heap_ne _ _ _ _ _ (Hh.out.av_ne k (by rw [HV.2.1]; exact hk))]
        exact HS.block k (Hh.out.atts.ne_map Hh.out.map k (by rw [HV.2.1]; exact hk))
      have hne1 : some L.pb ≠ (Value.slice a2 n2 cap2).ownBlock := by
        intro e
        rw [← HV.2.1] at e
        exact Hh.out.av_ne L.pb e.symm rfl
      have hne2 : some w0.heap.size ≠ (Value.slice a2 n2 cap2).ownBlock := by
        intro e
        have := HAt.lt _ e.symm
        omega
      have hne3 : some (w0.heap.size + 1) ≠ (Value.slice a2 n2 cap2).ownBlock := by
        intro e
        have := HAt.lt _ e.symm
        omega
      go_upto_region 27 with fail
      refine wp_region_float [0, 1, 2, 3, 4, 5, 6, 7, 8] [9, 10, 11, 12, 13] [0, 1, 2, 3, 7, 8] mixed (fun w' => w'.cell? ⟨L.pb, 2, none⟩ = some (.slice a2 n2 cap2) ∧ w'.cell? ⟨w0.heap.size, 0, none⟩ = some (.int .u8 r.id) ∧ w'.cell? ⟨w0.heap.size, 1, none⟩ = some (.bool r.w) ∧ w'.cell? ⟨w0.heap.size, 2, none⟩ = some (.int .u32 r.ad) ∧ w'.cell? ⟨w0.heap.size, 3, none⟩ = some (.int .u32 r.da) ∧ w'.cell? ⟨w0.heap.size + 1, 0, none⟩ = some (.int .u8 pl.o) ∧ w'.cell? ⟨w0.heap.size + 1, 1, none⟩ = some (.int .u32 pl.l)) (by kernel_rfl) rfl (by kernel_rfl) (by go_simp) ?_
      iterate 9 refine wpFl_op _ _ _ _ rfl rfl (fun ω hj => by first | (obtain ⟨j1, j2, j3, j4, j5, j6, j7⟩ := hj rfl; go_simp; rfl) | (go_simp; rfl)) ?_
      refine wpFl_nil _ _ ?_
      simp only [Act.put, List.setIfInBounds_toArray]
      refine wpCh_one _ _ _ _ rfl ?_
      simp only [List.getElem_toArray, List.getElem_cons_succ, List.getElem_cons_zero]
      go_wp2
      refine ⟨by go_simp; rw [World.cell?_alloc_lt _ _ _ (by simp [put_size]; omega)]; go_simp, ?_⟩
      refine wpCh_rest _ _ _ _ [_, _, _, _] _ _ rfl (by kernel_rfl) ?_
      simp only [List.getElem_toArray, List.getElem_cons_succ, List.getElem_cons_zero]
      go_wp2_with (at_builtin; refine wpList_append_sl _ rfl (.tmp 134) (.tmp 139) 51 rfl 59 i0 (.agg #[.int .u8 0, .bool false, .int .u32 0, .int .u32 0, .int .u8 0, .int .u32 0, .bool false]) 7 24 Tryd.underlying51 hi hz0 hz1 hz2 rfl (by decide) _ _ _ rfl (HAt.same ?c0) ⟨w0.heap.size + 2, 0, none⟩ 1 1 [.int .u8 r.id, .bool r.w, .int .u32 r.ad, .int .u32 r.da, .int .u8 pl.o, .int .u32 pl.l, .bool ab] rfl rfl ?c1 ?c2 ?c3 ?c4 ?_)
      case c0 =>
        intro k hk
        have := HAt.lt k hk
        show (((put w1 L.pb _ 113).alloc _).alloc _ |>.alloc _).heap[k]? = w1.heap[k]?
        rw [Below.heap_alloc _ _ _ (by simp [put_size]; omega), Below.heap_alloc _ _ _ (by simp [put_size]; omega), Below.heap_alloc _ _ _ (by simp [put_size]; omega), put_heap_ne _ _ _ _ _ (fun e => hne1 (by rw [hk, e]))]
      case c1 =>
        intro j u hj
        rw [World.cell?_drewN]
        exact cells_new _ _ _ _ (by simp [put_size]; omega) j u hj
      case c2 => intro u hu; simp at hu; rcases hu with rfl | rfl | rfl | rfl | rfl | rfl | rfl <;> rfl
      case c3 => unfold maxLen; omega
      case c4 => omega
      intro v' w2 hsl hgr hnew
      obtain ⟨a3, cap3, rfl⟩ := hsl.form'
      have hw2 : ∀ k, k < w0.heap.size → k ≠ L.pb → (Value.slice a2 n2 cap2).ownBlock ≠ some k → w2.heap[k]? = w1.heap[k]? := by
        intro k hk hpk hne
        rw [hgr.block k (by simp [put_size]; omega) (Ne.symm hne)]
        show (((put w1 L.pb _ 113).alloc _).alloc _ |>.alloc _).heap[k]? = w1.heap[k]?
        rw [Below.heap_alloc _ _ _ (by simp [put_size]; omega), Below.heap_alloc _ _ _ (by simp [put_size]; omega), Below.heap_alloc _ _ _ (by simp [put_size]; omega), put_heap_ne _ _ _ _ _ hpk]
      have hB2 : Blk w2 L.pb #[.map (some L.mb), .slice a' m cap', .slice a2 n2 cap2, .bool true, .int .u32 0, .int .u32 due, .int .u8 r.id, .int .u8 st, .int .u32 da] 113 := by
        unfold Blk
        rw [hgr.block L.pb (by simp [put_size]; omega) hne1]
        show (((put w1 L.pb _ 113).alloc _).alloc _ |>.alloc _).heap[L.pb]? = _
        rw [Below.heap_alloc _ _ _ (by simp [put_size]; omega), Below.heap_alloc _ _ _ (by simp [put_size]; omega), Below.heap_alloc _ _ _ (by simp [put_size]; omega), put_heap_same _ _ _ _ hlt1]
      have hsz2 : w0.heap.size ≤ w2.heap.size := by have := hgr.size; simp [put_size] at this; omega
      have H3 : Hid (w2.os = w0.os ∧ w2.tape = w0.tape ∧ w2.output = w0.output) := ⟨hgr.os.trans HS.os, hgr.tape.trans HS.tape, hgr.output.trans HS.output⟩
      have HW : Hid (∀ k, (Value.slice a3 (n2 + 1) cap3).ownBlock = some k → (Value.slice a2 n2 cap2).ownBlock = some k ∨ w0.heap.size ≤ k) := by
        intro k hk
        rcases hnew k hk with h1 | h1
        · exact .inl h1
        · exact .inr (by omega)
      have hpb2 : ∀ k, (Value.slice a3 (n2 + 1) cap3).ownBlock = some k → k ≠ L.pb := hB2.sl_ne (by decide) hsl
      have H1 := hid_of hw2
      have H2 := hid_of hsl
      have HP2 := hid_of hpb2
      have HG := hid_of hsz2
      have HS' := hid_of HS
      have hlt2 := hB2.lt
      clear hw2 hgr hnew hsl hpb2 hsz2 hne1 hne2 hne3 hsz1 HS hi hz0 hz1 hz2 hlt1
      obtain ⟨w3, rfl, hlt3⟩ := hB2.out
      clear hB2 hlt2
      go_wp2
      go_ret
      refine ⟨rfl, _, { L with pv := .slice a' m cap', av := .slice a3 (n2 + 1) cap3 }, rfl, rfl, PRep.again (q' := sendP q r) Hh.out rfl rfl ?_ ?_ ?_ ?_ ?_ ?_ ?_ ?_ ?_ ?_ ?_⟩
      · have e : pcells { L with pv := .slice a' m cap', av := .slice a3 (n2 + 1) cap3 } (sendP q r) = #[.map (some L.mb), .slice a' m cap', .slice a3 (n2 + 1) cap3, .bool true, .int .u32 0, .int .u32 due, .int .u8 r.id, .int .u8 st, .int .u32 da] := by
          have e1 : sendRead q r = da := by
            rw [← HA3.out, ← HVv.out]
            unfold sendRead
            rw [HPl.out]
            by_cases ho : pl.o = 0
            · have hab : ab = true := by rw [← HA.out]; simp [actB, ho]
              simp only [ho, hab, Bool.true_and]
              rfl
            · simp [ho]
          simp only [pcells, sendP, HPl.out, HE.out, HA2.out, e1]
        rw [e]
        exact put_heap_same _ _ _ _ hlt3
      · have hm1 : w3.heap[L.mb]? = w1.heap[L.mb]? := (put_heap_ne w3 _ _ _ _ hmne).symm.trans (H1 _ (by have := HM0.out.lt; omega) hmne (fun e => (HAt.ne_map HM1.out) _ e rfl))
        exact HM1.out.same ((put_heap_ne _ _ _ _ _ hmne).trans hm1)
      · have ht := HT'.out.1
        have hnp : ∀ k, (Value.slice a' m cap').ownBlock = some k → k ≠ L.pb := fun k hk => Hh.out.pv_ne k (by rw [HV.1]; exact HT'.out.2 k hk)
        refine ht.same fun k hk => ?_
        have hk0 : k < w0.heap.size := by have := ht.lt k hk; rwa [put_size] at this
        have hpv := HT'.out.2 k hk
        rw [put_heap_ne _ _ _ _ _ (hnp k hk), put_heap_ne _ _ _ _ _ (hnp k hk)]
        refine (put_heap_ne w3 _ _ _ _ (hnp k hk)).symm.trans ((H1 k hk0 (hnp k hk) (fun e => ?_)).trans (HS'.out.block k (Hh.out.plans.ne_map Hh.out.map k (by rw [HV.1]; exact hpv))))
        exact Hh.out.plans.ne_sl (by decide) Hh.out.atts k (by rw [HV.1]; exact hpv) (by rw [HV.2.1]; exact e)
      · have e1 : (sendP q r).atts.length = n2 + 1 := by show (q.atts ++ _).length = _; rw [List.length_append, HV.2.2.2]; rfl
        have e2 : (sendP q r).atts.flatMap attRow = q.atts.flatMap attRow ++ [.int .u8 r.id, .bool r.w, .int .u32 r.ad, .int .u32 r.da, .int .u8 pl.o, .int .u32 pl.l, .bool ab] := by
          show (q.atts ++ _).flatMap attRow = _
          rw [List.flatMap_append, HPl.out, HA.out]
          rfl
        rw [e1, e2]
        exact H2.out.same fun k hk => (put_heap_ne _ _ _ _ _ (HP2.out k hk)).trans (put_heap_ne w3 _ _ _ _ (HP2.out k hk)).symm
      · intro k hk
        rw [HV.1]
        exact .inl (HT'.out.2 k hk)
      · intro k hk
        rw [HV.2.1, put_size]
        exact HW.out k hk
      · exact H3.out.1
      · exact H3.out.2.1
      · exact H3.out.2.2
      · have := HG.out
        rw [put_size] at this
        show (put w0 _ _ _).heap.size ≤ (put w3 _ _ _).heap.size
        rw [put_size, put_size]; exact this
      · intro k hk n1 n2' n3 n4
        rw [put_size] at hk
        rw [HV.2.1] at n4
        refine (put_heap_ne _ _ _ _ _ n1).trans ((put_heap_ne w3 _ _ _ _ n1).symm.trans ((H1 k hk n1 n4).trans ((HS'.out.block k n2').trans (put_heap_ne _ _ _ _ _ n1).symm)))
end Go.Proofs.Qxb6500750aDoor
