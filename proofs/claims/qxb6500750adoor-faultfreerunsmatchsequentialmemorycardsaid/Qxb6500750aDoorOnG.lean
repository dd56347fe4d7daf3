import Derived.Test.Qxb6500750aDoorOnR
import Derived.Deep.DeepCutAuto
import Derived.Deep.CutBlock
namespace Go.Proofs.Qxb6500750aDoor
open Go.RowKit
attribute [local go_sem] put_size put_cell_same put_cell_ne put_frozen_same put_frozen_ne put_setCell_same put_setCell_ne put_drew
attribute [local go_sem] drewN_setCell drewN_alloc drewN_put
attribute [local go_sem] ag_rg ag_av ag_gr ag_rt ag_tk ag_ba ag_cut ag_turn ag_pt ag_fm ag_f0 ag_f1 ag_f2 ag_f3 as_av as_gr as_rt as_tk as_ba as_cut as_turn as_pt as_fm
attribute [local go_sem] as_f0t as_f1t as_f2t as_f3t upd_same upd_upd
/-! ### onGrant -/
theorem wv_bit (f : Nat → Bool) (k : Nat) (hk : k < 3) : bits BinOp.and IntKind.u8 (((wv f : Nat) : Int) / 2 ^ k) 1 = if f k = true then 1 else 0 := by
  have h : k = 0 ∨ k = 1 ∨ k = 2 := by omega
  unfold wv
  rcases h with rfl | rfl | rfl <;> generalize f 0 = a <;> generalize f 1 = b <;> generalize f 2 = c <;> cases a <;> cases b <;> cases c <;> decide
/-- Round-robin alone. -/
def rrob (f : Nat → Bool) (turn : Nat) : Nat := if f turn = true then turn else if f ((turn + 1) % 3) = true then (turn + 1) % 3 else (turn + 2) % 3
theorem i64_and3 (q : Nat) (_ : q < 4000000) : bits BinOp.and IntKind.i64 (q : Nat) 3 = ((q % 4 : Nat) : Int) := by
  have h : (BitVec.ofInt 64 (q : Nat) &&& BitVec.ofInt 64 3).toNat = q % 4 := by
    rw [BitVec.toNat_and, show (BitVec.ofInt 64 3).toNat = 2 ^ 2 - 1 from rfl, Nat.and_two_pow_sub_one_eq_mod, BitVec.toNat_ofInt]
    omega
  show IntKind.i64.wrap (((BitVec.ofInt 64 (q : Nat) &&& BitVec.ofInt 64 3).toNat : Nat) : Int) = _
  rw [h]
  simp [IntKind.wrap, IntKind.bits, IntKind.signed]; omega
theorem i64_lid (g q : Nat) (hg : g < 3) (hq : q < 4000000) : IntKind.u8.wrap (bits BinOp.or IntKind.i64 ((g : Nat) * 4) (bits BinOp.and IntKind.i64 (q : Nat) 3)) = lid (g : Nat) (q : Nat) := by
  rw [i64_and3 q hq]
  unfold lid
  have h1 : q % 4 = 0 ∨ q % 4 = 1 ∨ q % 4 = 2 ∨ q % 4 = 3 := by omega
  have h2 : g = 0 ∨ g = 1 ∨ g = 2 := by omega
  have h3 : ((q : Nat) : Int) % 4 = ((q % 4 : Nat) : Int) := by omega
  rw [h3]
  rcases h2 with rfl | rfl | rfl <;> rcases h1 with h | h | h | h <;> rw [h] <;> decide
structure LinkAt (w : World) (rg s : Nat) (L : PL) (q : PS) : Prop where
  ptr : w.cell? ⟨rg, 1 + s, none⟩ = some (.pointer (some ⟨L.pb, 0, none⟩))
  blk : Blk w L.pb (pcells L q) 113
  atts : Sl w L.av 59 7 q.atts.length (q.atts.flatMap attRow)
structure GrantPost (ab t g q : Nat) (a : AU) (γ : Int → Int → Option Nat) (f1 : FL) (w w' : World) : Prop where
  out : ∃ fb, w.heap.size ≤ fb ∧ Blk w' ab (encA { a with gr := upd a.gr g ((q : Nat) + 1), turn := upd a.turn t (((g : Nat) + 1) % 3), pt := upd a.pt t (.pointer (some ⟨fb, 0, none⟩)) }) 82 ∧ Blk w' fb (encF f1) 156 ∧ FMap w' a.fm (gset γ (g : Nat) (q : Nat) (some fb))
  os : w'.os = w.os
  tape : w'.tape = w.tape
  output : w'.output = w.output
  size : w.heap.size ≤ w'.heap.size
  block : ∀ k, k < w.heap.size → k ≠ ab → k ≠ a.fm → w'.heap[k]? = w.heap[k]?
set_option maxRecDepth 100000 in
set_option maxHeartbeats 8000000 in
theorem onGrant_any (ab t g q turn pick : Nat) (a : AU) (f : Nat → Bool) (γ : Int → Int → Option Nat) (acc : List Req) (r : Req) (f1 : FL) (ht : t < 7) (hgl : g < 3) (htu : turn < 3) (hpk : pick < 4) (hf : wv f ≠ 0)
    (hcho : cho f pick turn = g) (htt : a.turn t = (turn : Nat)) (h0 : a.f0 = true) (h2 : a.f2 = true) (h3 : a.f3 = true) (hba : a.ba g = false) (hgr : a.gr g = (q : Nat)) (hacc : acc[q]? = some r) (hlen : acc.length < 4000000) (hγ : γ (g : Nat) (q : Nat) = none)
    (w : World) (hA : Blk w ab (encA a) 82) (hM : FMap w a.fm γ) (hS : Sl w (a.av g) 91 3 acc.length (acc.flatMap reqRow)) (hne : a.fm ≠ ab)
    (hN : ∀ (W : World) (fb : Nat), w.heap.size ≤ fb → W.cell? ⟨ab, 0, none⟩ = some (.pointer (some ⟨a.rg, 0, none⟩)) → (∀ k, k < w.heap.size → k ≠ ab → W.heap[k]? = w.heap[k]?) → Blk W fb (encF ⟨(g : Nat), r.w, (t : Nat), 0, 0, 0, false⟩) 156 →
      Calls Tryd.prog 57 #[.pointer (some ⟨ab, 0, none⟩), .pointer (some ⟨fb, 0, none⟩)] W fun e w' => e = .returned (.tuple #[]) ∧ Below W.heap.size (put W fb (encF f1) 156) w')
    (hL : t < 6 → ∃ L qs l, LinkAt w a.rg t L qs ∧ L.pb ≠ ab ∧ L.pb ≠ a.fm ∧ a.rg ≠ ab ∧ a.rg ≠ a.fm ∧ (∀ k, L.av.ownBlock = some k → k ≠ ab ∧ k ≠ a.fm) ∧ qs.atts.length < 1000000000 ∧ qs.atts.getLast? = some l ∧ l.r = ⟨lid (g : Nat) (q : Nat), r.w, r.ad, r.da⟩) :
    Calls Tryd.prog 58 #[.pointer (some ⟨ab, 0, none⟩), .int .i64 (t : Nat), .int .i64 (g : Nat), .int .u32 (pick : Nat), .int .u8 (wv f : Nat)] w fun e w' => e = .returned (.tuple #[]) ∧ GrantPost ab t g q a γ f1 w w' := by
  have hql : q < acc.length := (List.getElem?_eq_some_iff.1 hacc).1
  obtain ⟨b, off, cap, hav, hcap, hbl⟩ := hS.form (by omega)
  have hbA : b ≠ ab := hA.sl_ne (by decide) hS b (by rw [hav]; rfl)
  have r0 := hS.cell hav (q * 3 + 0) (by rw [reqs_len]; omega)
  have r1 := hS.cell hav (q * 3 + 1) (by rw [reqs_len]; omega)
  have r2 := hS.cell hav (q * 3 + 2) (by rw [reqs_len]; omega)
  rw [reqs_get _ _ _ r hacc (by decide)] at r0 r1 r2
  simp only [reqRow, List.getElem?_cons_succ, List.getElem?_cons_zero, Nat.add_zero] at r0 r1 r2
  rw [← Nat.add_assoc] at r1 r2
  obtain ⟨n, hn⟩ : ∃ n, acc.length = n := ⟨_, rfl⟩
  rw [hn] at hav hql hlen hcap
  have HM := hid_of hM
  have HN := hid_of hN
  have HL := hid_of hL
  have HAV := hid_of hav
  have hadd : IntKind.i64.wrap (((q : Nat) : Int) + 1) = (q : Nat) + 1 := by simp [IntKind.wrap, IntKind.bits, IntKind.signed]; omega
  have hq32 : ((q : Nat) : Int) % 4294967296 = (q : Nat) := by omega
  have hb := wv_bit f
  have htt' := htt
  have HW := hid_of hb
  have HF := hid_of hf
  obtain ⟨W, hW⟩ : ∃ W, wv f = W := ⟨_, rfl⟩
  rw [hW] at hb ⊢
  obtain ⟨w0, rfl, hl0⟩ := hA.out
  rw [put_cell_ne _ _ _ _ _ _ _ hbA] at r0 r1 r2
  rw [put_size] at hbl
  clear hA hM hS hb hN hL hacc hn
  go_enter Tryd.func58, Tryd.ntmps58
  go_upto_block 0 with fail
  go_cut [10] (fun s wc => s = .int .i64 (rrob f turn : Nat) ∧ wc = put w0 ab (encA a) 82)
  case first =>
    go_wp2_with fail
    go_loopw [10, 11] (fun s i w' => ∃ k : Nat, k ≤ 3 ∧ i = .int .i64 k ∧ s = .int .i64 (((turn + k) % 3 : Nat) : Nat) ∧ Hid (∀ j, j < k → f ((turn + j) % 3) = false) ∧ w' = put w0 ab (encA a) 82) (fun _ i _ => 3 - (intOf i).toNat)
    case atStart => exact ⟨0, by omega, rfl, by rw [Nat.add_zero, Nat.mod_eq_of_lt htu], fun j hj => absurd hj (by omega), rfl⟩
    case round =>
      obtain ⟨k, hk, rfl, rfl, hz, rfl⟩ := hrel
      by_cases hk3 : k < 3
      · have hbit := HW.out ((turn + k) % 3) (Nat.mod_lt _ (by decide))
        rw [hW] at hbit
        have hnx : ((((turn + k) % 3 : Nat) : Int) + 1).tmod 3 = (((turn + (k + 1)) % 3 : Nat) : Int) := by rw [Int.tmod_eq_emod_of_nonneg (by omega)]; omega
        have hw1 : IntKind.i64.wrap ((((turn + k) % 3 : Nat) : Int) + 1) = (((turn + k) % 3 : Nat) : Int) + 1 := by simp [IntKind.wrap, IntKind.bits, IntKind.signed]; omega
        have hr : Hid (f ((turn + k) % 3) = true → rrob f turn = (turn + k) % 3) := fun hfc => by
          unfold rrob
          have hz := hz.out
          have h9 : k = 0 ∨ k = 1 ∨ k = 2 := by omega
          have h8 : turn % 3 = turn := Nat.mod_eq_of_lt htu
          rcases h9 with rfl | rfl | rfl
          · simp only [Nat.add_zero] at hfc ⊢; rw [h8] at hfc ⊢; rw [if_pos hfc]
          · have := hz 0 (by omega); rw [Nat.add_zero, h8] at this; rw [if_neg (by rw [this]; decide), if_pos hfc]
          · have e0 := hz 0 (by omega); have e1 := hz 1 (by omega); rw [Nat.add_zero, h8] at e0
            rw [if_neg (by rw [e0]; decide), if_neg (by rw [e1]; decide)]
        have hc3 : (turn + k) % 3 < 3 := Nat.mod_lt _ (by decide)
        have hz2 : Hid (f ((turn + k) % 3) = false → ∀ j, j < k + 1 → f ((turn + j) % 3) = false) := fun hfc j hj => by
          by_cases e : j = k
          · subst e; exact hfc
          · exact hz.out j (by omega)
        have hn3 : Hid ((turn + (k + 1)) % 3 < 3) := Nat.mod_lt _ (by decide)
        generalize (turn + k) % 3 = c at *
        generalize hn' : (turn + (k + 1)) % 3 = c' at *
        have hN' := hid_of hn'
        clear hn'
        cases hfc : f c
        · rw [hfc, if_neg (by decide)] at hbit
          have hz3 := hid_of (hz2.out hfc)
          clear hz2
          go_wp2_with fail
          go_roundw
          case rel => exact ⟨k + 1, by omega, by go_num, by rw [hN'.out], hz3, trivial⟩
          case measure => simp [intOf]; omega
        · rw [hfc, if_pos rfl] at hbit
          have hr2 := hid_of (hr.out hfc)
          clear hz2 hr
          go_wp2_with fail
          go_meet
          exact ⟨by rw [hr2.out], rfl⟩
      · exfalso
        have hk9 : k = 3 := by omega
        subst hk9
        apply HF.out
        have z0 := hz.out 0 (by omega)
        have z1 := hz.out 1 (by omega)
        have z2 := hz.out 2 (by omega)
        have h9 : turn = 0 ∨ turn = 1 ∨ turn = 2 := by omega
        unfold wv
        rcases h9 with rfl | rfl | rfl <;> simp only [Nat.reduceAdd, Nat.reduceMod] at z0 z1 z2 <;> rw [z0, z1, z2] <;> rfl
  case rest =>
    obtain ⟨rfl, rfl⟩ := hcut
    have hgo : cho f pick turn = if pick < 3 ∧ f pick = true then pick else rrob f turn := rfl
    have hfg : f g = true := by rw [← hcho]; exact cho_wants f pick turn htu HF.out
    have hbg := HW.out g hgl
    rw [hW, if_pos hfg] at hbg
    have HGO := hid_of hgo
    clear hgo
    go_upto_region 5 with fail
    go_cut [44] (fun s wc => ∃ b, s = .bool b ∧ Hid ((decide (pick < 3) && f pick) = b) ∧ wc = put w0 ab (encA a) 82)
    case first =>
      by_cases hp3 : pick < 3
      · have hbp := HW.out pick hp3
        rw [hW] at hbp
        cases hfp : f pick
        · rw [hfp, if_neg (by decide)] at hbp
          go_wp2_with fail
          go_meet
          exact ⟨false, rfl, by simp [hfp, Hid], rfl⟩
        · rw [hfp, if_pos rfl] at hbp
          go_wp2_with fail
          go_meet
          exact ⟨true, rfl, by simp [hfp, hp3, Hid], rfl⟩
      · go_wp2_with fail
        go_meet
        exact ⟨false, rfl, by simp [hp3, Hid], rfl⟩
    case rest =>
      obtain ⟨b, rfl, hbb, rfl⟩ := hcut
      go_upto_if 44 with fail
      go_cut [10] (fun s wc => s = .int .i64 (g : Nat) ∧ wc = put w0 ab (encA a) 82)
      case first =>
        cases b
        · have he : rrob f turn = g := by
            rw [← hcho, HGO.out, if_neg]
            intro h
            have := hbb.out
            rw [decide_eq_true h.1, h.2] at this
            cases this
          go_wp2_with fail
          go_meet
          exact ⟨by rw [he], rfl⟩
        · have he : pick = g := by
            have := hbb.out
            rw [Bool.and_eq_true, decide_eq_true_eq] at this
            rw [← hcho, HGO.out, if_pos this]
          go_wp2_with fail
          go_meet
          exact ⟨rfl, rfl⟩
      case rest =>
        obtain ⟨rfl, rfl⟩ := hcut
        go_wp2_with fail
        go_quiet (fail)
        go_wp2_with fail
        refine wp_region_qtail 10 mixed (by kernel_rfl) ?_
        simp only [List.take_succ_cons, List.take_zero, List.drop_succ_cons, List.drop_zero]
        repeat (go_big_quiet_step (fail))
        refine wpQuiet_nil ?_
        go_wp2_with fail
        obtain ⟨A2, hA2⟩ : ∃ A2 : AU, A2 = { a with gr := upd a.gr g ((q : Nat) + 1), turn := upd a.turn t (((g : Nat) + 1) % 3), f0 := true, f2 := true, f3 := true } := ⟨_, rfl⟩
        rw [show ({ rg := a.rg, av := a.av, gr := upd a.gr g ((q : Nat) + 1), rt := a.rt, tk := a.tk, ba := a.ba, cut := a.cut, turn := upd a.turn t (((g : Nat) + 1) % 3), pt := a.pt, fm := a.fm, f0 := true, f1 := a.f1, f2 := true, f3 := true } : AU) = A2 from hA2.symm]
        have hsz : ((((put w0 ab (encA A2) 82).alloc (.cells #[.bool r.w, .int .u32 r.ad, .int .u32 r.da] 91)).alloc (.cells #[.int .i64 (g : Nat), .bool r.w, .int .i64 (t : Nat), .int .i64 0, .int .i64 0, .int .u8 0, .bool false] 156)).drewN (nq + 1)).heap.size = w0.heap.size + 2 := by
          show (((put w0 ab (encA A2) 82).alloc (.cells #[.bool r.w, .int .u32 r.ad, .int .u32 r.da] 91)).alloc (.cells #[.int .i64 (g : Nat), .bool r.w, .int .i64 (t : Nat), .int .i64 0, .int .i64 0, .int .u8 0, .bool false] 156)).heap.size = _
          simp [put_size]
        have hA3 : Blk ((((put w0 ab (encA A2) 82).alloc (.cells #[.bool r.w, .int .u32 r.ad, .int .u32 r.da] 91)).alloc (.cells #[.int .i64 (g : Nat), .bool r.w, .int .i64 (t : Nat), .int .i64 0, .int .i64 0, .int .u8 0, .bool false] 156)).drewN (nq + 1)) ab (encA A2) 82 := ((Blk.put_same hl0).alloc _).alloc _
        have hR3 : Blk ((((put w0 ab (encA A2) 82).alloc (.cells #[.bool r.w, .int .u32 r.ad, .int .u32 r.da] 91)).alloc (.cells #[.int .i64 (g : Nat), .bool r.w, .int .i64 (t : Nat), .int .i64 0, .int .i64 0, .int .u8 0, .bool false] 156)).drewN (nq + 1)) w0.heap.size #[.bool r.w, .int .u32 r.ad, .int .u32 r.da] 91 := by
          have := (Blk.new (put w0 ab (encA A2) 82) #[.bool r.w, .int .u32 r.ad, .int .u32 r.da] 91).alloc (.cells #[.int .i64 (g : Nat), .bool r.w, .int .i64 (t : Nat), .int .i64 0, .int .i64 0, .int .u8 0, .bool false] 156)
          rw [put_size] at this; exact this
        have hF3 : Blk ((((put w0 ab (encA A2) 82).alloc (.cells #[.bool r.w, .int .u32 r.ad, .int .u32 r.da] 91)).alloc (.cells #[.int .i64 (g : Nat), .bool r.w, .int .i64 (t : Nat), .int .i64 0, .int .i64 0, .int .u8 0, .bool false] 156)).drewN (nq + 1)) (w0.heap.size + 1) #[.int .i64 (g : Nat), .bool r.w, .int .i64 (t : Nat), .int .i64 0, .int .i64 0, .int .u8 0, .bool false] 156 := by
          have := Blk.new ((put w0 ab (encA A2) 82).alloc (.cells #[.bool r.w, .int .u32 r.ad, .int .u32 r.da] 91)) #[.int .i64 (g : Nat), .bool r.w, .int .i64 (t : Nat), .int .i64 0, .int .i64 0, .int .u8 0, .bool false] 156
          simp [put_size] at this; exact this
        have HK : Hid (∀ k, k < w0.heap.size → k ≠ ab → ((((put w0 ab (encA A2) 82).alloc (.cells #[.bool r.w, .int .u32 r.ad, .int .u32 r.da] 91)).alloc (.cells #[.int .i64 (g : Nat), .bool r.w, .int .i64 (t : Nat), .int .i64 0, .int .i64 0, .int .u8 0, .bool false] 156)).drewN (nq + 1)).heap[k]? = w0.heap[k]?) := fun k hk hka => by
          show (((put w0 ab (encA A2) 82).alloc (.cells #[.bool r.w, .int .u32 r.ad, .int .u32 r.da] 91)).alloc (.cells #[.int .i64 (g : Nat), .bool r.w, .int .i64 (t : Nat), .int .i64 0, .int .i64 0, .int .u8 0, .bool false] 156)).heap[k]? = _
          rw [Below.heap_alloc _ _ _ (by simp [put_size]; omega), Below.heap_alloc _ _ _ (by rw [put_size]; exact hk)]
          exact put_heap_ne _ _ _ _ _ hka
        have HKo : Hid (((((put w0 ab (encA A2) 82).alloc (.cells #[.bool r.w, .int .u32 r.ad, .int .u32 r.da] 91)).alloc (.cells #[.int .i64 (g : Nat), .bool r.w, .int .i64 (t : Nat), .int .i64 0, .int .i64 0, .int .u8 0, .bool false] 156)).drewN (nq + 1)).os = w0.os ∧ ((((put w0 ab (encA A2) 82).alloc (.cells #[.bool r.w, .int .u32 r.ad, .int .u32 r.da] 91)).alloc (.cells #[.int .i64 (g : Nat), .bool r.w, .int .i64 (t : Nat), .int .i64 0, .int .i64 0, .int .u8 0, .bool false] 156)).drewN (nq + 1)).tape = w0.tape ∧ ((((put w0 ab (encA A2) 82).alloc (.cells #[.bool r.w, .int .u32 r.ad, .int .u32 r.da] 91)).alloc (.cells #[.int .i64 (g : Nat), .bool r.w, .int .i64 (t : Nat), .int .i64 0, .int .i64 0, .int .u8 0, .bool false] 156)).drewN (nq + 1)).output = w0.output) := ⟨rfl, rfl, rfl⟩
        generalize ((((put w0 ab (encA A2) 82).alloc (.cells #[.bool r.w, .int .u32 r.ad, .int .u32 r.da] 91)).alloc (.cells #[.int .i64 (g : Nat), .bool r.w, .int .i64 (t : Nat), .int .i64 0, .int .i64 0, .int .u8 0, .bool false] 156)).drewN (nq + 1)) = W1 at *
        refine (HN.out W1 (w0.heap.size + 1) (by rw [put_size]; omega) (by rw [hA3.cell, ag_rg, hA2]) (fun k hk hka => by rw [put_size] at hk; rw [HK.out k hk hka]; exact (put_heap_ne _ _ _ _ _ hka).symm) hF3).mono ?_
        rintro e w2 ⟨rfl, hb2⟩
        have hko : ∀ k, k < w0.heap.size + 2 → k ≠ w0.heap.size + 1 → w2.heap[k]? = W1.heap[k]? := fun k hk hkn => (hb2.block k (by rw [hsz]; exact hk)).trans (put_heap_ne _ _ _ _ _ hkn)
        have hA4 : Blk w2 ab (encA A2) 82 := (hko ab (by omega) (by omega)).trans hA3
        have hR4 : Blk w2 w0.heap.size #[.bool r.w, .int .u32 r.ad, .int .u32 r.da] 91 := (hko _ (by omega) (by omega)).trans hR3
        have hF4 : Blk w2 (w0.heap.size + 1) (encF f1) 156 := (hb2.block _ (by rw [hsz]; omega)).trans (Blk.put_same (by rw [hsz]; omega))
        have HK2 : Hid (∀ k, k < w0.heap.size → k ≠ ab → w2.heap[k]? = w0.heap[k]?) := fun k hk hka => (hko k (by omega) (by omega)).trans (HK.out k hk hka)
        have HKo2 : Hid (w2.os = w0.os ∧ w2.tape = w0.tape ∧ w2.output = w0.output ∧ w0.heap.size + 2 ≤ w2.heap.size) := ⟨hb2.os.trans HKo.out.1, hb2.tape.trans HKo.out.2.1, hb2.output.trans HKo.out.2.2, by have h := hb2.size; rw [put_size, hsz] at h; exact h⟩
        have hml := HM.out.lt
        rw [put_size] at hml
        have hM2 : FMap w2 a.fm γ := HM.out.same ((HK2.out _ hml hne).trans (put_heap_ne _ _ _ _ _ hne).symm)
        have HR4 := hid_of hR4
        have HF4 := hid_of hF4
        have hx0 := hR4.cell 0
        have hx1 := hR4.cell 1
        have hx2 := hR4.cell 2
        simp only [List.getElem?_toArray, List.getElem?_cons_succ, List.getElem?_cons_zero] at hx0 hx1 hx2
        clear hb2 hko hA3 hR3 hF3 HK HKo hR4 hF4 HM HN r0 r1 r2 hsz
        obtain ⟨w3, rfl, hl3⟩ := hA4.out
        have nS : w0.heap.size ≠ ab := by omega
        rw [put_cell_ne _ _ _ _ _ _ _ nS] at hx0 hx1 hx2
        have e0 : A2.f0 = true := by rw [hA2]
        have em : A2.fm = a.fm := by rw [hA2]
        have eg : A2.rg = a.rg := by rw [hA2]
        have HA2 := hid_of hA2
        have HKo3 : Hid (w3.os = w0.os ∧ w3.tape = w0.tape ∧ w3.output = w0.output ∧ w0.heap.size + 2 ≤ w3.heap.size) := by
          have h := HKo2.out
          simp only [put_size] at h
          exact h
        have HK3 : Hid (∀ k, k < w0.heap.size → k ≠ ab → w3.heap[k]? = w0.heap[k]?) := fun k hk hka => (put_heap_ne _ ab k _ _ hka).symm.trans (HK2.out k hk hka)
        have hM3 : FMap (put w3 ab (encA { rg := a.rg, av := A2.av, gr := A2.gr, rt := A2.rt, tk := A2.tk, ba := A2.ba, cut := A2.cut, turn := A2.turn, pt := upd A2.pt t (.pointer (some ⟨w0.heap.size + 1, 0, none⟩)), fm := a.fm, f0 := true, f1 := A2.f1, f2 := A2.f2, f3 := A2.f3 }) 82).drew a.fm γ := hM2.same ((put_heap_ne _ _ _ _ _ hne).trans (put_heap_ne _ _ _ _ _ hne).symm)
        obtain ⟨w4, st, w5, hE1, hE2, hM5, ob, hob⟩ := hM3.entry (g : Nat) (q : Nat) (by omega) (by omega) hγ (w0.heap.size + 1)
        unfold keyV at hE1
        have HM5 := hid_of hM5
        have HOB := hid_of hob
        clear hA4 hM2 hM3 hM5 hob hA2 HK2 HKo2
        go_wp2_with fail
        have ht7 : ((t : Nat) : Int) < 7 := by omega
        refine wp_region_float [0, 1, 2, 3, 4, 5, 6, 7, 8, 9, 10, 11, 12, 13, 14] [15, 16, 17, 18] [0, 1, 2, 3, 4, 6, 7, 8, 9, 10, 11, 12, 13, 14] mixed (fun ω => ω = (put w3 ab (encA A2) 82).drew) (by kernel_rfl) rfl (by kernel_rfl) rfl ?_
        iterate 15 refine wpFl_op _ _ _ _ rfl rfl (fun ω hj => by first | (obtain rfl := hj rfl; go_simp; rfl) | (go_simp; rfl)) ?_
        refine wpFl_nil _ _ ?_
        simp only [Act.put, List.setIfInBounds_toArray]
        refine wpCh_rest _ _ _ _ [_, _, _, _] _ _ rfl (by kernel_rfl) ?_
        simp only [List.getElem_toArray, List.getElem_cons_succ, List.getElem_cons_zero]
        go_upto_region 18 with fail
        obtain ⟨A3, hA3⟩ : ∃ A3 : AU, A3 = { rg := a.rg, av := A2.av, gr := A2.gr, rt := A2.rt, tk := A2.tk, ba := A2.ba, cut := A2.cut, turn := A2.turn, pt := upd A2.pt t (.pointer (some ⟨w0.heap.size + 1, 0, none⟩)), fm := a.fm, f0 := true, f1 := A2.f1, f2 := A2.f2, f3 := A2.f3 } := ⟨_, rfl⟩
        have HA3 := hid_of hA3
        have hko : ∀ k, k ≠ a.fm → w5.heap[k]? = (put w3 ab (encA A3) 82).heap[k]? := fun k hk => by rw [HOB.out, hA3]; simp [putO, Ne.symm hk]; rfl
        have hA5 : Blk w5 ab (encA A3) 82 := (hko ab (Ne.symm hne)).trans (Blk.put_same hl3)
        have hF5 : Blk w5 (w0.heap.size + 1) (encF f1) 156 := (hko _ (by omega)).trans ((put_heap_ne _ _ _ _ _ (by omega)).trans ((put_heap_ne _ _ _ _ _ (by omega)).symm.trans HF4.out))
        have hR5 : Blk w5 w0.heap.size #[.bool r.w, .int .u32 r.ad, .int .u32 r.da] 91 := (hko _ (by omega)).trans ((put_heap_ne _ _ _ _ _ nS).trans ((put_heap_ne _ _ _ _ _ nS).symm.trans HR4.out))
        have HK5 : Hid (∀ k, k < w0.heap.size → k ≠ ab → k ≠ a.fm → w5.heap[k]? = w0.heap[k]?) := fun k hk hka hkm => (hko k hkm).trans ((put_heap_ne _ _ _ _ _ hka).trans (HK3.out k hk hka))
        have HKo5 : Hid (w5.os = w0.os ∧ w5.tape = w0.tape ∧ w5.output = w0.output ∧ w0.heap.size + 2 ≤ w5.heap.size) := by
          have h := HKo3.out
          rw [HOB.out]
          exact ⟨h.1, h.2.1, h.2.2.1, by simp [putO, put_size]; exact h.2.2.2⟩
        have hA3e : A3 = { a with gr := upd a.gr g ((q : Nat) + 1), turn := upd a.turn t (((g : Nat) + 1) % 3), pt := upd a.pt t (.pointer (some ⟨w0.heap.size + 1, 0, none⟩)) } := by rw [hA3, HA2.out]; simp [h0, h2, h3]
        have HA3e := hid_of hA3e
        have hx0 := hR5.cell 0
        have hx1 := hR5.cell 1
        have hx2 := hR5.cell 2
        simp only [List.getElem?_toArray, List.getElem?_cons_succ, List.getElem?_cons_zero] at hx0 hx1 hx2
        have HM6 := hid_of HM5.out
        have HF5 := hid_of hF5
        clear hko hA3 hA3e hE1 hE2 HM5 HOB HR4 HF4 hR5 hF5 HK3 HKo3 HA3
        obtain ⟨w6, rfl, hl6⟩ := hA5.out
        rw [put_cell_ne _ _ _ _ _ _ _ nS] at hx0 hx1 hx2
        have hfin : Hid (∀ n, GrantPost ab t g q a γ f1 (put w0 ab (encA a) 82) ((put w6 ab (encA A3) 82).drewN n)) := fun n => by
          have h5 := HKo5.out
          simp only [put_size] at h5
          refine ⟨⟨w0.heap.size + 1, by rw [put_size]; omega, ?_, HF5.out, HM6.out.same rfl⟩, h5.1, h5.2.1, h5.2.2.1, ?_, ?_⟩
          · rw [← HA3e.out]; exact Blk.put_same hl6
          · show (put w0 ab (encA a) 82).heap.size ≤ (put w6 ab _ 82).heap.size
            rw [put_size, put_size]; omega
          · intro k hk hka hkm
            rw [put_size] at hk
            exact (HK5.out k hk hka hkm).trans (put_heap_ne _ ab k _ _ hka).symm
        by_cases ht6 : t < 6
        · obtain ⟨L, qs, l, hla, n1, n2, n3, n4, n5, hsz, hlast, hlr⟩ := HL.out ht6
          have hlt : ∀ k, k < w0.heap.size → k ≠ ab → k ≠ a.fm → w6.heap[k]? = (put w0 ab (encA a) 82).heap[k]? := fun k hk hka hkm => (put_heap_ne _ ab k _ _ hka).symm.trans ((HK5.out k hk hka hkm).trans (put_heap_ne _ ab k _ _ hka).symm)
          have hpl := hla.blk.lt
          rw [put_size] at hpl
          have HP6 : Hid (Blk (put w6 ab (encA A3) 82) L.pb (pcells L qs) 113) := (put_heap_ne _ ab _ _ _ n1).trans ((hlt _ hpl n1 n2).trans hla.blk)
          have hrl : a.rg < w0.heap.size := by have := World.block_lt_of_cell? _ _ hla.ptr; rw [put_size] at this; exact this
          have hG6 : w6.cell? ⟨a.rg, 1 + t, none⟩ = some (.pointer (some ⟨L.pb, 0, none⟩)) := by
            have h := hla.ptr
            simp only [World.cell?] at h ⊢
            rw [hlt _ hrl n3 n4]; exact h
          obtain ⟨b2, off2, cap2, hv2, hcap2, hpos, hcell⟩ := last_att hla.atts hlast
          obtain ⟨N, hNN⟩ : ∃ N, qs.atts.length = N + 1 := ⟨qs.atts.length - 1, by omega⟩
          rw [hNN] at hv2 hcell hsz hcap2
          have hb2l : b2 < w0.heap.size := by have := hla.atts.lt b2 (by rw [hv2]; rfl); rw [put_size] at this; exact this
          obtain ⟨n6, n7⟩ := n5 b2 (by rw [hv2]; rfl)
          have hc6 : ∀ j, j < 7 → w6.cell? ⟨b2, off2 + N * 7 + j, none⟩ = (attRow l)[j]? := fun j hj => by
            have h := hcell j hj
            rw [Nat.add_sub_cancel] at h
            rw [← h]
            simp only [World.cell?]
            rw [hlt _ hb2l n6 n7]
          have k0 := hc6 0 (by decide)
          have k1 := hc6 1 (by decide)
          have k2 := hc6 2 (by decide)
          have k3 := hc6 3 (by decide)
          simp only [attRow, hlr, List.getElem?_cons_zero, List.getElem?_cons_succ, Nat.add_zero] at k0 k1 k2 k3
          have hsub : IntKind.i64.wrap (((N + 1 : Nat) : Int) - 1) = (N : Nat) := by simp [IntKind.wrap, IntKind.bits, IntKind.signed]; omega
          have hwN : IntKind.i64.wrap ((N : Nat) : Int) = (N : Nat) := by simp [IntKind.wrap, IntKind.bits, IntKind.signed]; omega
          have hN1 : ((N : Nat) : Int) < (N : Nat) + 1 := by omega
          have hlid := i64_lid g q hgl (by omega)
          have e0' : A3.f0 = true := by rw [HA3e.out]; exact h0
          have eg' : A3.rg = a.rg := by rw [HA3e.out]
          have ht6' : ((t : Nat) : Int) < 6 := by omega
          have HAT := hid_of (attempts_any L qs)
          clear hlt hla hc6 hcell hlr hlast hNN n5
          go_wp2_with fail
          refine (HAT.out _ HP6.out).mono ?_
          rintro e w7 ⟨rfl, rfl⟩
          rw [hv2]
          go_wp2_with fail
          refine wp_region_qtail 30 mixed (by kernel_rfl) ?_
          simp only [List.take_succ_cons, List.take_zero, List.drop_succ_cons, List.drop_zero]
          repeat (go_big_quiet_step (fail))
          refine wpQuiet_nil ?_
          go_wp2_with fail
          go_end0
          exact ⟨rfl, hfin.out 1⟩
        · go_wp2_with fail
          go_end0
          exact ⟨rfl, hfin.out 0⟩
end Go.Proofs.Qxb6500750aDoor
