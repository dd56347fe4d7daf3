import Derived.Test.Qxb6500750aDoorOnI
import Derived.Test.Qxb6500750aDoorFmap
import Derived.Test.Qxb6500750aDoorQt
import Derived.BigQuiet
import Derived.Deep.WholeRow
namespace Go.Proofs.Qxb6500750aDoor
open Go.RowKit
attribute [local go_sem] put_size put_cell_same put_cell_ne put_frozen_same put_frozen_ne put_setCell_same put_setCell_ne put_drew
attribute [local go_sem] drewN_setCell drewN_alloc drewN_put
attribute [local go_sem] ag_rg ag_av ag_gr ag_rt ag_tk ag_ba ag_cut ag_turn ag_pt ag_fm ag_f0 ag_f1 ag_f2 ag_f3 as_av as_gr as_rt as_tk as_ba as_cut as_turn as_pt as_fm
attribute [local go_sem] as_f0t as_f1t as_f2t as_f3t upd_same upd_upd
/-! ### onReturn -/
theorem Tryd.eqg38 : Tryd.prog.eqGuardType Tryd.prog.depth 38 = false := by kernel_rfl
theorem eq38 (q : Nat) (w : World) : (Op.equalIn 10000 38 (.agg #[.bool true, .int .u32 (q : Nat), .int .u8 4, .int .u32 0, .int .u8 0, .int .u8 0]) (.agg #[.bool true, .int .u32 (q : Nat), .int .u8 4, .int .u32 0, .int .u8 0, .int .u8 0])).run Tryd.prog w = .ok true w := by
  rw [show (10000 : Nat) = 9999 + 1 from rfl, run_equalIn_struct _ 9999 38 _ _ (by kernel_rfl) (by kernel_rfl)]
  simp [Op.eqFields, go_sem]
set_option maxRecDepth 100000 in
set_option maxHeartbeats 4000000 in
theorem onReturn_cancel (ab m q : Nat) (a : AU) (g : Int → Int → Option Nat) (hm : m < 3) (h0 : a.f0 = true) (h2 : a.f2 = true) (hq : a.rt m = (q : Nat)) (hlt : ((q : Nat) : Int) < a.gr m) (hgr : a.gr m < 4000000) (hg : g (m : Nat) (q : Nat) = none)
    (w : World) (hA : Blk w ab (encA a) 82) (hM : FMap w a.fm g) (hne : a.fm ≠ ab) :
    Calls Tryd.prog 60 #[.pointer (some ⟨ab, 0, none⟩), .int .i64 (m : Nat), .agg #[.bool true, .int .u32 (q : Nat), .int .u8 4, .int .u32 0, .int .u8 0, .int .u8 0]] w fun e w' => e = .returned (.tuple #[]) ∧
      Below w.heap.size (put w ab (encA { a with rt := upd a.rt m ((q : Nat) + 1) }) 82) w' := by
  have hadd : IntKind.i64.wrap (((q : Nat) : Int) + 1) = (q : Nat) + 1 := by simp [IntKind.wrap, IntKind.bits, IntKind.signed]; omega
  have hcv : IntKind.i64.wrap ((q : Nat) : Int) = (q : Nat) := by simp [IntKind.wrap, IntKind.bits, IntKind.signed]; omega
  obtain ⟨w0, rfl, hl0⟩ := hA.out
  have HL : Hid (∀ cs c n, (Instr.lookup 80 (.map (some a.fm)) (.agg #[.int .i64 (m : Nat), .int .u32 (q : Nat)]) false).run Tryd.prog (((put w0 ab cs 82).alloc c).drewN n) = .ok (.pointer none) (((put w0 ab cs 82).alloc c).drewN n)) := fun cs c n => by
    have hM2 : FMap (((put w0 ab cs 82).alloc c).drewN n) a.fm g := hM.same (by
      show ((put w0 ab cs 82).alloc c).heap[a.fm]? = _
      rw [Below.heap_alloc _ _ _ (by have := hM.lt; rw [put_size] at this ⊢; exact this), put_heap_ne _ _ _ _ _ hne, put_heap_ne _ _ _ _ _ hne])
    have := hM2.lookup (m : Nat) (q : Nat) (by omega) (by omega)
    rw [hg] at this
    exact this
  rw [put_put]
  clear hA hM
  go_enter Tryd.func60, Tryd.ntmps60
  go_wp2_with fail
  refine wp_region_qtail 34 mixed (by kernel_rfl) ?_
  simp only [List.take_succ_cons, List.take_zero, List.drop_succ_cons, List.drop_zero]
  repeat (go_big_quiet_step (fail))
  refine wpQuiet_nil ?_
  go_wp2_with fail
  refine wp_region_qtail 10 mixed (by kernel_rfl) ?_
  simp only [List.take_succ_cons, List.take_zero, List.drop_succ_cons, List.drop_zero]
  repeat (go_big_quiet_step (fail))
  refine wpQuiet_nil ?_
  go_wp2_with fail
  have hl := HL.out
  go_quiet (fail)
  clear hl
  have HB5 : Hid (∀ C n, Blk (((put w0 ab C 82).alloc (.cells #[.bool true, .int .u32 (q : Nat), .int .u8 4, .int .u32 0, .int .u8 0, .int .u8 0] 38)).drewN n) w0.heap.size #[.bool true, .int .u32 (q : Nat), .int .u8 4, .int .u32 0, .int .u8 0, .int .u8 0] 38) := fun C n => by
    have := Blk.new (put w0 ab C 82) #[.bool true, .int .u32 (q : Nat), .int .u8 4, .int .u32 0, .int .u8 0, .int .u8 0] 38
    rw [put_size] at this; exact this
  go_wp2_with (first
    | ((with_reducible show wpList _ _ _ ({ dst := _, op := Op.load 38 (Operand.tmp 5), type := _, pos := _, after := _, guard := _ } :: _) _ _); refine wpList_load_yes (by rfl) 38 (.tmp 5) (by rfl) w0.heap.size (by rfl) 38 _ (0, 0) _ (HB5.out _ _) Tryd.underlying38 rfl (by kernel_rfl) ?_)
    | ((with_reducible show wpList _ _ _ ({ dst := _, op := Op.binOp BinOp.eql 38 (Operand.tmp 69) _ _, type := _, pos := _, after := _, guard := _ } :: _) _ _); refine wpList_eql_yes (by rfl) 38 (.tmp 69) (.tmp 72) 38 (by rfl) _ _ true (by rfl) (by rfl) Tryd.eqg38 (eq38 q _) ?_))
  refine bodyPost_ret (results_none rfl _ _ _) rfl ?_
  rw [h0, h2]
  exact ⟨rfl, below_drewN ((Below.refl _ _).alloc (by simp [put_size]) _)⟩
theorem wpList_delete_fl {P : Program} {ops : Array Oper} {rest : List Oper} {o : Oper} {a : Act} {w w2 : World} {Q : Exit → Act → World → Prop} (hgd : o.guard = none) (s x : Operand) (t k : TypeId) (u v : Value)
    (ho : o.op = .call { callee := .builtin .delete, args := #[s, x], argTypes := #[t, k] }) (hs : a.eval s = u) (hx : a.eval x = v)
    (hrun : (Builtin.delete_ #[t, k] o.type #[u, v]).run P w = .ok (.tuple #[]) w2) (h : wpList P ops Q rest (a.put o.dst (.tuple #[])) w2) : wpList P ops Q (o :: rest) a w :=
  wpList_plain hgd fun _ hK => by
    unfold Oper.wp
    simp [execOp, ho, resolve, invoke, builtin, hs, hx, hrun, Result.andThen]
    exact hK _ _ h
/-- What the auditor awaits of a flight's answer. -/
def wantS (f : FL) : Int := if f.t = 6 then 2 else if f.la = 0 then 0 else if f.la = 1 then 1 else 3
structure RetPost (ab m q : Nat) (a : AU) (g : Int → Int → Option Nat) (w w' : World) : Prop where
  blk : Blk w' ab (encA { a with rt := upd a.rt m ((q : Nat) + 1) }) 82
  map : FMap w' a.fm (gset g (m : Nat) (q : Nat) none)
  os : w'.os = w.os
  tape : w'.tape = w.tape
  output : w'.output = w.output
  size : w.heap.size ≤ w'.heap.size
  block : ∀ k, k < w.heap.size → k ≠ ab → k ≠ a.fm → w'.heap[k]? = w.heap[k]?
set_option maxRecDepth 100000 in
set_option maxHeartbeats 8000000 in
theorem onReturn_flight (ab m q fb : Nat) (a : AU) (g : Int → Int → Option Nat) (f : FL) (da : Int) (hm : m < 3) (h0 : a.f0 = true) (h1 : a.f1 = true) (hq : a.rt m = (q : Nat)) (hlt : ((q : Nat) : Int) < a.gr m) (hgr : a.gr m < 4000000) (hg : g (m : Nat) (q : Nat) = some fb)
    (hn : 1 ≤ f.n ∧ f.n ≤ 4) (hrep : f.rep = (wantS f == 3)) (w : World) (hA : Blk w ab (encA a) 82) (hM : FMap w a.fm g) (hF : Blk w fb (encF f) 156) (hne : a.fm ≠ ab) (hfa : fb ≠ ab) (hfm : fb ≠ a.fm) :
    Calls Tryd.prog 60 #[.pointer (some ⟨ab, 0, none⟩), .int .i64 (m : Nat), .agg #[.bool true, .int .u32 (q : Nat), .int .u8 (wantS f), .int .u32 da, .int .u8 (f.n - 1), .int .u8 f.la]] w fun e w' => e = .returned (.tuple #[]) ∧ RetPost ab m q a g w w' := by
  obtain ⟨hn1, hn4⟩ := hn
  have hadd : IntKind.i64.wrap (((q : Nat) : Int) + 1) = (q : Nat) + 1 := by simp [IntKind.wrap, IntKind.bits, IntKind.signed]; omega
  have hcv : IntKind.i64.wrap ((q : Nat) : Int) = (q : Nat) := by simp [IntKind.wrap, IntKind.bits, IntKind.signed]; omega
  have hcn : IntKind.i64.wrap (f.n - 1) = f.n - 1 := by simp [IntKind.wrap, IntKind.bits, IntKind.signed]; omega
  obtain ⟨w0, rfl, hl0⟩ := hA.out
  have HM : Hid (∀ cs c n, FMap (((put w0 ab cs 82).alloc c).drewN n) a.fm g) := fun cs c n => hM.same (by
      show ((put w0 ab cs 82).alloc c).heap[a.fm]? = _
      rw [Below.heap_alloc _ _ _ (by have := hM.lt; rw [put_size] at this ⊢; exact this), put_heap_ne _ _ _ _ _ hne, put_heap_ne _ _ _ _ _ hne])
  have HF : Hid (∀ cs c n, Blk (((put w0 ab cs 82).alloc c).drewN n) fb (encF f) 156) := fun cs c n => by
      show ((put w0 ab cs 82).alloc c).heap[fb]? = _
      rw [Below.heap_alloc _ _ _ (by have := hF.lt; rw [put_size] at this ⊢; exact this), put_heap_ne _ _ _ _ _ hfa]
      exact (put_heap_ne _ _ _ _ _ hfa).symm.trans hF
  have HL : Hid (∀ cs c n, (Instr.lookup 80 (.map (some a.fm)) (.agg #[.int .i64 (m : Nat), .int .u32 (q : Nat)]) false).run Tryd.prog (((put w0 ab cs 82).alloc c).drewN n) = .ok (.pointer (some ⟨fb, 0, none⟩)) (((put w0 ab cs 82).alloc c).drewN n)) := fun cs c n => by
    have := (HM.out cs c n).lookup (m : Nat) (q : Nat) (by omega) (by omega)
    rw [hg] at this
    exact this
  have hfl := hF.lt
  have hml := hM.lt
  rw [put_size] at hfl hml
  clear hA hM hF
  generalize hws : wantS f = ws at *
  go_enter Tryd.func60, Tryd.ntmps60
  go_wp2_with fail
  refine wp_region_qtail 34 mixed (by kernel_rfl) ?_
  simp only [List.take_succ_cons, List.take_zero, List.drop_succ_cons, List.drop_zero]
  repeat (go_big_quiet_step (fail))
  refine wpQuiet_nil ?_
  go_wp2_with fail
  refine wp_region_qtail 10 mixed (by kernel_rfl) ?_
  simp only [List.take_succ_cons, List.take_zero, List.drop_succ_cons, List.drop_zero]
  repeat (go_big_quiet_step (fail))
  refine wpQuiet_nil ?_
  go_wp2_with fail
  have hl := HL.out
  go_quiet (fail)
  clear hl
  go_wp2_with fail
  refine wp_region_qtail 8 mixed (by kernel_rfl) ?_
  simp only [List.take_succ_cons, List.take_zero, List.drop_succ_cons, List.drop_zero]
  repeat (go_big_quiet_step (fail))
  refine wpQuiet_nil ?_
  obtain ⟨A2, hA2⟩ : ∃ A2 : AU, A2 = { a with rt := upd a.rt m ((q : Nat) + 1), f0 := true, f1 := true } := ⟨_, rfl⟩
  rw [show ({ rg := a.rg, av := a.av, gr := a.gr, rt := upd a.rt m ((q : Nat) + 1), tk := a.tk, ba := a.ba, cut := a.cut, turn := a.turn, pt := a.pt, fm := a.fm, f0 := true, f1 := true, f2 := a.f2, f3 := a.f3 } : AU) = A2 from hA2.symm]
  have hM2 : FMap ((((put w0 ab (encA A2) 82).alloc (.cells #[.bool true, .int .u32 (q : Nat), .int .u8 ws, .int .u32 da, .int .u8 (f.n - 1), .int .u8 f.la] 38)).drewN (1 + (1 + nq))).drew) a.fm g := (HM.out (encA A2) (.cells #[.bool true, .int .u32 (q : Nat), .int .u8 ws, .int .u32 da, .int .u8 (f.n - 1), .int .u8 f.la] 38) (1 + (1 + nq))).same rfl
  have hF2 : Blk ((((put w0 ab (encA A2) 82).alloc (.cells #[.bool true, .int .u32 (q : Nat), .int .u8 ws, .int .u32 da, .int .u8 (f.n - 1), .int .u8 f.la] 38)).drewN (1 + (1 + nq))).drew) fb (encF f) 156 := HF.out (encA A2) (.cells #[.bool true, .int .u32 (q : Nat), .int .u8 ws, .int .u32 da, .int .u8 (f.n - 1), .int .u8 f.la] 38) (1 + (1 + nq))
  have hA3 : Blk ((((put w0 ab (encA A2) 82).alloc (.cells #[.bool true, .int .u32 (q : Nat), .int .u8 ws, .int .u32 da, .int .u8 (f.n - 1), .int .u8 f.la] 38)).drewN (1 + (1 + nq))).drew) ab (encA A2) 82 := (Blk.put_same hl0).alloc _
  have hB3 : Blk ((((put w0 ab (encA A2) 82).alloc (.cells #[.bool true, .int .u32 (q : Nat), .int .u8 ws, .int .u32 da, .int .u8 (f.n - 1), .int .u8 f.la] 38)).drewN (1 + (1 + nq))).drew) w0.heap.size #[.bool true, .int .u32 (q : Nat), .int .u8 ws, .int .u32 da, .int .u8 (f.n - 1), .int .u8 f.la] 38 := by
    have := Blk.new (put w0 ab (encA A2) 82) #[.bool true, .int .u32 (q : Nat), .int .u8 ws, .int .u32 da, .int .u8 (f.n - 1), .int .u8 f.la] 38
    rw [put_size] at this; exact this
  have HK : Hid (∀ k, k < w0.heap.size → k ≠ ab → ((((put w0 ab (encA A2) 82).alloc (.cells #[.bool true, .int .u32 (q : Nat), .int .u8 ws, .int .u32 da, .int .u8 (f.n - 1), .int .u8 f.la] 38)).drewN (1 + (1 + nq))).drew).heap[k]? = w0.heap[k]?) := fun k hk hka => (Below.heap_alloc (put w0 ab (encA A2) 82) _ k (by rw [put_size]; exact hk)).trans (put_heap_ne _ _ _ _ _ hka)
  have HKo : Hid (((((put w0 ab (encA A2) 82).alloc (.cells #[.bool true, .int .u32 (q : Nat), .int .u8 ws, .int .u32 da, .int .u8 (f.n - 1), .int .u8 f.la] 38)).drewN (1 + (1 + nq))).drew).os = w0.os ∧ ((((put w0 ab (encA A2) 82).alloc (.cells #[.bool true, .int .u32 (q : Nat), .int .u8 ws, .int .u32 da, .int .u8 (f.n - 1), .int .u8 f.la] 38)).drewN (1 + (1 + nq))).drew).tape = w0.tape ∧ ((((put w0 ab (encA A2) 82).alloc (.cells #[.bool true, .int .u32 (q : Nat), .int .u8 ws, .int .u32 da, .int .u8 (f.n - 1), .int .u8 f.la] 38)).drewN (1 + (1 + nq))).drew).output = w0.output ∧ ((((put w0 ab (encA A2) 82).alloc (.cells #[.bool true, .int .u32 (q : Nat), .int .u8 ws, .int .u32 da, .int .u8 (f.n - 1), .int .u8 f.la] 38)).drewN (1 + (1 + nq))).drew).heap.size = w0.heap.size + 1) := ⟨rfl, rfl, rfl, by
    show ((put w0 ab (encA A2) 82).alloc _).heap.size = _
    simp [put_size]⟩
  clear HM HF HL
  generalize ((((put w0 ab (encA A2) 82).alloc (.cells #[.bool true, .int .u32 (q : Nat), .int .u8 ws, .int .u32 da, .int .u8 (f.n - 1), .int .u8 f.la] 38)).drewN (1 + (1 + nq))).drew) = W at *
  obtain ⟨w2, hrun, hM3, ob, hob⟩ := hM2.delete (m : Nat) (q : Nat) (by omega) (by omega) fb hg 0
  refine wpList_delete_fl rfl (.tmp 80) (.tmp 84) 80 172 _ _ rfl rfl rfl hrun ?_
  have hko : ∀ k, k ≠ a.fm → w2.heap[k]? = W.heap[k]? := fun k hk => by rw [hob]; simp [putO, Ne.symm hk]
  have hA4 : Blk w2 ab (encA A2) 82 := (hko ab (Ne.symm hne)).trans hA3
  have hF4 : Blk w2 fb (encF f) 156 := (hko fb hfm).trans hF2
  have hB4 : Blk w2 w0.heap.size #[.bool true, .int .u32 (q : Nat), .int .u8 ws, .int .u32 da, .int .u8 (f.n - 1), .int .u8 f.la] 38 := (hko _ (by omega)).trans hB3
  have HK2 : Hid (∀ k, k < w0.heap.size → k ≠ ab → k ≠ a.fm → w2.heap[k]? = w0.heap[k]?) := fun k hk hka hkm => (hko k hkm).trans (HK.out k hk hka)
  have HKo2 : Hid (w2.os = w0.os ∧ w2.tape = w0.tape ∧ w2.output = w0.output ∧ w2.heap.size = w0.heap.size + 1) := by
    have h := HKo.out
    rw [hob]
    exact ⟨h.1, h.2.1, h.2.2.1, by simp [putO]; exact h.2.2.2⟩
  have hs9 : w0.heap.size < w2.heap.size := hB4.lt
  have hf9 : fb < w2.heap.size := hF4.lt
  clear hM2 hF2 hA3 hB3 hrun hob hko HK HKo
  obtain ⟨w3, rfl, hl3⟩ := hA4.out
  have HM4 : Hid (∀ C n, FMap ((put w3 ab C 82).drewN n) a.fm (gset g (m : Nat) (q : Nat) none)) := fun C n => hM3.same ((put_heap_ne _ _ _ _ _ hne).trans (put_heap_ne _ _ _ _ _ hne).symm)
  have HK3 : Hid (∀ k, k < w0.heap.size → k ≠ ab → k ≠ a.fm → w3.heap[k]? = w0.heap[k]?) := fun k hk hka hkm => (put_heap_ne _ ab k _ _ hka).symm.trans (HK2.out k hk hka hkm)
  have HKo3 : Hid (w3.os = w0.os ∧ w3.tape = w0.tape ∧ w3.output = w0.output ∧ w3.heap.size = w0.heap.size + 1) := by
    have h := HKo2.out
    simp only [put_size] at h
    exact h
  have nS : w0.heap.size ≠ ab := by omega
  have k2 := hB4.cell 2
  have k4 := hB4.cell 4
  have k5 := hB4.cell 5
  have j2 := hF4.cell 2
  have j3 := hF4.cell 3
  have j5 := hF4.cell 5
  have j6 := hF4.cell 6
  simp only [encF, List.getElem?_toArray, List.getElem?_cons_succ, List.getElem?_cons_zero] at k2 k4 k5 j2 j3 j5 j6
  rw [put_cell_ne _ _ _ _ _ _ _ nS] at k2 k4 k5
  rw [put_cell_ne _ _ _ _ _ _ _ hfa] at j2 j3 j5 j6
  have e1 : A2.f1 = true := by rw [hA2]
  have HA2 := hid_of hA2
  have HWS := hid_of hws
  have HREP := hid_of hrep
  clear hA4 hF4 hB4 hM3 HK2 HKo2 hA2 hws hrep
  have hcs : (f.t = 6 ∧ ws = 2 ∧ f.rep = false) ∨ ((f.t == 6) = false ∧ f.la = 0 ∧ ws = 0 ∧ f.rep = false) ∨ ((f.t == 6) = false ∧ f.la = 1 ∧ ws = 1 ∧ f.rep = false) ∨ ((f.t == 6) = false ∧ (f.la == 0) = false ∧ (f.la == 1) = false ∧ ws = 3 ∧ f.rep = true) := by
    have h := HWS.out
    have hr := HREP.out
    unfold wantS at h
    by_cases c1 : f.t = 6
    · rw [if_pos c1] at h; subst h; exact .inl ⟨c1, rfl, by simpa using hr⟩
    · rw [if_neg c1] at h
      have c1' : (f.t == 6) = false := by simpa using c1
      by_cases c2 : f.la = 0
      · rw [if_pos c2] at h; subst h; exact .inr (.inl ⟨c1', c2, rfl, by simpa using hr⟩)
      · rw [if_neg c2] at h
        by_cases c3 : f.la = 1
        · rw [if_pos c3] at h; subst h; exact .inr (.inr (.inl ⟨c1', c3, rfl, by simpa using hr⟩))
        · rw [if_neg c3] at h; subst h; exact .inr (.inr (.inr ⟨c1', by simpa using c2, by simpa using c3, rfl, by simpa using hr⟩))
  have hfin : Hid (RetPost ab m q a g (put w0 ab (encA a) 82) ((put w3 ab (encA A2) 82).drew)) := by
    refine ⟨?_, HM4.out _ 1, HKo3.out.1, HKo3.out.2.1, HKo3.out.2.2.1, ?_, ?_⟩
    · rw [show ({ a with rt := upd a.rt m ((q : Nat) + 1) } : AU) = A2 by rw [HA2.out]; simp [h0, h1]]
      exact Blk.put_same hl3
    · show (put w0 ab (encA a) 82).heap.size ≤ (put w3 ab _ 82).heap.size
      rw [put_size, put_size, HKo3.out.2.2.2]; omega
    · intro k hk hka hkm
      rw [put_size] at hk
      exact (put_heap_ne _ ab k _ _ hka).trans ((HK3.out k hk hka hkm).trans (put_heap_ne _ ab k _ _ hka).symm)
  clear HM4 HK3 HKo3 HA2 HWS HREP
  rcases hcs with ⟨q1, rfl, q3⟩ | ⟨q1, q2, rfl, q3⟩ | ⟨q1, q2, rfl, q3⟩ | ⟨q1, q2, q2', rfl, q3⟩
  all_goals
    go_wp2_with fail
    refine wp_region_qtail 42 mixed (by kernel_rfl) ?_
    simp only [List.take_succ_cons, List.take_zero, List.drop_succ_cons, List.drop_zero]
    repeat (go_big_quiet_step (fail))
    refine wpQuiet_nil ?_
    go_wp2_with fail
    go_end0
    exact ⟨rfl, hfin.out⟩
end Go.Proofs.Qxb6500750aDoor
