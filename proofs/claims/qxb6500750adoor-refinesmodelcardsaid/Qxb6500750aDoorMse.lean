import Derived.Test.Qxb6500750aDoorMsd
namespace Go.Proofs.Qxb6500750aDoor
open Go.RowKit
attribute [local go_sem] put_size put_cell_same put_cell_ne put_frozen_same put_frozen_ne put_setCell_same put_setCell_ne put_drew
attribute [local go_sem] drewN_setCell drewN_alloc drewN_put upd_same upd_upd
attribute [local go_sem] mg_q mg_ac mg_tk mg_ba mg_wm mg_pv mg_av mg_sv mg_lf mg_en mg_rd mg_tu mg_is ms_q ms_ac ms_tk ms_ba ms_wm ms_pv ms_av ms_sv ms_lf ms_en ms_rd ms_tu ms_is
attribute [local go_sem] tg_0 tg_1 tg_2 tg_3 tg_4 tg_5 tg_6 tg_7 tg_8 tg_9 tg_10 tg_11 tg_12 tg_13
theorem Sl.castM {w : World} {v : Value} {T : TypeId} {es n n' : Nat} {xs xs' : List Value} (h : Sl w v T es n xs) (e1 : n = n') (e2 : xs = xs') : Sl w v T es n' xs' := by subst e1; subst e2; exact h
theorem Tryd.info54 : (Tryd.prog.info? 54).map (fun i => (i.zero, i.size, i.bytes)) = some (some (.agg #[.int .u8 0, .bool false, .int .u32 0, .int .u32 0]), 4, 12) := by kernel_rfl
def lreqOf (x : TX) : LReq := ⟨lid x.m x.q, x.rq.w, x.rq.ad, x.rq.da⟩
structure SendPost (w w' : World) (mb t : Nat) (M : MA) (qs : PS) (x : TX) : Prop where
  out : ∃ g', Blk w' mb (encM { M with tg := upd M.tg t g' }) 104 ∧ g'.wm = (M.tg t).wm ∧ g'.sv = (M.tg t).sv ∧ g'.tu = (M.tg t).tu ∧ g'.is = (M.tg t).is ∧ MapB w' (M.tg t).wm (sendP qs (lreqOf x)).mem ∧
    Sl w' g'.pv 57 2 (sendP qs (lreqOf x)).plans.length ((sendP qs (lreqOf x)).plans.flatMap planRow) ∧ Sl w' g'.av 54 4 (acts (sendP qs (lreqOf x))).length ((acts (sendP qs (lreqOf x))).flatMap lreqRow) ∧
    g'.lf = (if (sendP qs (lreqOf x)).due = 0 then 64 else (sendP qs (lreqOf x)).due) ∧ g'.en = (if (sendP qs (lreqOf x)).due = 0 then 4 else (sendP qs (lreqOf x)).rst) ∧ g'.rd = (if (sendP qs (lreqOf x)).due = 0 then 0 else (sendP qs (lreqOf x)).rda) ∧
    (∀ k, g'.pv.ownBlock = some k → (M.tg t).pv.ownBlock = some k) ∧ (∀ k, g'.av.ownBlock = some k → (M.tg t).av.ownBlock = some k ∨ w.heap.size ≤ k)
  os : w'.os = w.os
  tape : w'.tape = w.tape
  output : w'.output = w.output
  size : w.heap.size ≤ w'.heap.size
  block : ∀ k, k < w.heap.size → k ≠ mb → k ≠ (M.tg t).wm → (M.tg t).av.ownBlock ≠ some k → w'.heap[k]? = w.heap[k]?
def gM1 (g : TG) (v : Value) (b : Nat) : TG := ⟨g.wm, v, g.av, .pointer (some ⟨b, 0, none⟩), 1, 0, 0, g.tu, g.is⟩
def fr54c (mb t pb b : Nat) (c : Bool) (u : Nat → Value) : Act :=
  { tmps := #[.pointer (some ⟨mb, 0, none⟩), .int .i64 (t : Nat), u 2, u 3, .pointer (some ⟨mb, 12 + t * 9, none⟩), .pointer (some ⟨pb, 0, none⟩), .pointer (some ⟨b, 0, none⟩), u 7, u 8, u 9, u 10, u 11, u 12, u 13, u 14, u 15, u 16, u 17, u 18, u 19, u 20, u 21, u 22, u 23, u 24, u 25, u 26, u 27, u 28, u 29, u 30, u 31, u 32, u 33, u 34, u 35, u 36, u 37, u 38, u 39, u 40, u 41, u 42, u 43, u 44, u 45, u 46, u 47, u 48, u 49, u 50, u 51, u 52, u 53, u 54, u 55, u 56, u 57, u 58, u 59, .bool c, u 61, u 62, u 63, u 64, u 65, u 66, u 67, u 68, u 69, u 70, u 71, u 72, u 73, u 74, u 75, u 76, u 77, u 78, u 79, u 80, u 81, u 82, u 83, u 84, u 85, u 86, u 87, u 88, u 89, u 90, u 91, u 92, u 93, u 94, u 95, u 96, u 97, u 98, u 99, u 100, u 101, u 102, u 103, u 104, u 105, u 106, u 107, u 108, u 109, u 110, u 111, u 112, u 113, u 114, u 115, u 116, u 117, u 118, u 119, u 120, u 121, u 122, u 123, u 124, u 125, u 126, u 127, u 128, u 129, u 130, u 131, u 132, u 133, u 134, u 135, u 136, u 137, u 138, u 139, u 140, u 141, u 142, u 143, u 144, u 145, u 146, u 147, u 148, u 149, u 150, u 151, u 152, u 153, u 154, u 155, u 156, u 157, u 158, u 159, u 160, u 161, u 162, u 163, u 164, u 165, u 166, u 167, u 168, u 169, u 170, u 171, u 172, u 173, u 174, u 175, u 176, u 177, u 178, u 179], defers := [] }
set_option maxRecDepth 100000 in
set_option maxHeartbeats 4000000 in
theorem msend_any (mb b t : Nat) (h6 : t < 6) (M : MA) (x : TX) (qs : PS) (w : World) (hB : Blk w mb (encM M) 104) (hx : Blk w b (encT x) 148) (hsv : (M.tg t).sv = .pointer (some ⟨b, 0, none⟩)) (hP : Sl w (M.tg t).pv 57 2 qs.plans.length (qs.plans.flatMap planRow)) (hA : Sl w (M.tg t).av 54 4 (acts qs).length ((acts qs).flatMap lreqRow)) (hM : MapB w (M.tg t).wm qs.mem)
    (hm : 0 ≤ x.m ∧ x.m < 3) (hq : 0 ≤ x.q) (hpl : ∀ p ∈ qs.plans, planOK p) (hn8 : qs.plans.length ≤ 8) (ha : (acts qs).length < 1000000000) :
    Calls Tryd.prog 54 #[.pointer (some ⟨mb, 0, none⟩), .int .i64 (t : Nat)] w fun e w' => e = .returned (.tuple #[]) ∧ SendPost w w' mb t M qs x := by
  have ht : t < 7 := by omega
  have hti : ((t : Nat) : Int) < 7 := by omega
  have ht6 : (((t : Nat) : Int) == 6) = false := by simp; omega
  have HB := hid_of hB
  have HX := hid_of hx
  have HP := hid_of hP
  have HA := hid_of hA
  have HM := hid_of hM
  have HPL := hid_of hpl
  obtain ⟨pv, hpv⟩ : ∃ v, (M.tg t).pv = v := ⟨_, rfl⟩
  have HPV := hid_of hpv
  obtain ⟨a, cap, hform⟩ := hP.form'
  rw [hpv] at hform
  obtain ⟨n, hn⟩ : ∃ n, qs.plans.length = n := ⟨_, rfl⟩
  rw [hn] at hform hn8
  obtain ⟨pl, hpl0⟩ : ∃ p, headPlan qs = p := ⟨_, rfl⟩
  have hpo : planOK pl := by
    rw [← hpl0]; unfold headPlan
    cases hq : qs.plans with
    | nil => exact ⟨by decide, by decide, by decide, by decide⟩
    | cons p rest => exact hpl p (by rw [hq]; simp)
  have HPO := hid_of hpo
  have HP0 := hid_of hpl0
  have HN := hid_of hn
  obtain ⟨w0, rfl, hl0⟩ := hB.out
  clear hx hP hA hM hpl hB hpo hpl0 hn
  go_enter Tryd.func54, Tryd.ntmps54
  go_upto_if 29 with fail
  refine cutM (Km := fun act wc => ∃ (u : Nat → Value) (v : Value), act = fr54a mb t w0.heap.size u ∧ wc = (put w0 mb (encM { M with tg := upd M.tg t (gM1 (M.tg t) v b) }) 104).alloc (.cells #[.int .u8 pl.o, .int .u32 pl.l] 57) ∧ Hid (Sl (put w0 mb (encM M) 104) v 57 2 qs.plans.tail.length (qs.plans.tail.flatMap planRow) ∧ ∀ k, v.ownBlock = some k → (M.tg t).pv.ownBlock = some k)) ?rest ?first
  case first =>
    obtain ⟨KR, hKR⟩ : ∃ KR : Act → World → Prop, KR = fun act wc => ∃ (u : Nat → Value) (v : Value), act = fr54a mb t w0.heap.size u ∧ wc = (put w0 mb (encM { M with tg := upd M.tg t (gM1 (M.tg t) v b) }) 104).alloc (.cells #[.int .u8 pl.o, .int .u32 pl.l] 57) ∧ Hid (Sl (put w0 mb (encM M) 104) v 57 2 qs.plans.tail.length (qs.plans.tail.flatMap planRow) ∧ ∀ k, v.ownBlock = some k → (M.tg t).pv.ownBlock = some k) := ⟨_, rfl⟩
    have HKR : Hid (∀ (act : Act) (wc : World) (v : Value), act = fr54a mb t w0.heap.size (fun i => act.tmps.getD i undef) → wc = (put w0 mb (encM { M with tg := upd M.tg t (gM1 (M.tg t) v b) }) 104).alloc (.cells #[.int .u8 pl.o, .int .u32 pl.l] 57) → Sl (put w0 mb (encM M) 104) v 57 2 qs.plans.tail.length (qs.plans.tail.flatMap planRow) → (∀ k, v.ownBlock = some k → (M.tg t).pv.ownBlock = some k) → KR act wc) := fun act wc v e1 e2 e3 e4 => by rw [hKR]; exact ⟨_, v, e1, e2, e3, e4⟩
    rw [← hKR]
    clear hKR
    by_cases hn0 : n = 0
    · subst hn0
      have hqe : qs.plans = [] := List.eq_nil_of_length_eq_zero HN.out
      have hple : pl = ⟨0, 0⟩ := by rw [← HP0.out]; unfold headPlan; rw [hqe]
      have HFIN : Hid (Sl (put w0 mb (encM M) 104) (.slice a 0 cap) 57 2 qs.plans.tail.length (qs.plans.tail.flatMap planRow) ∧ ∀ k, (Value.slice a 0 cap).ownBlock = some k → (M.tg t).pv.ownBlock = some k) := by
        have h9 := HP.out
        rw [HPV.out, hform, hqe] at h9
        refine ⟨by rw [hqe]; exact h9, fun k hk => by rw [HPV.out, hform]; exact hk⟩
      subst hple
      clear hqe
      go_wp2_with fail
      exact HKR.out _ _ (.slice a 0 cap) (by kernel_rfl) rfl HFIN.out.1 HFIN.out.2
    · obtain ⟨p, rest, hqe⟩ : ∃ p rest, qs.plans = p :: rest := by
        cases hqe : qs.plans with
        | nil => have := HN.out; rw [hqe] at this; exact absurd this.symm hn0
        | cons p rest => exact ⟨p, rest, rfl⟩
      have hple : pl = p := by rw [← HP0.out]; unfold headPlan; rw [hqe]
      have hp := HP.out
      rw [HPV.out, HN.out, hform] at hp
      obtain ⟨b2, off, cap', hsl, hcn, hbl⟩ := hp.form (by omega)
      cases hsl
      have k0 := hp.cell rfl 0 (by rw [hqe]; simp [planRow])
      have k1 := hp.cell rfl 1 (by rw [hqe]; simp [planRow])
      rw [hqe] at k0 k1
      simp [planRow] at k0 k1
      have hne : b2 ≠ mb := HB.out.sl_ne (by decide) hp b2 rfl
      rw [put_cell_ne _ _ _ _ _ _ _ hne] at k0 k1
      have hb0 : b2 < w0.heap.size := by simpa [put_size] using hbl
      have hl : n = rest.length + 1 := by have := HN.out; rw [hqe] at this; simpa using this.symm
      have htl : Hid (Sl (put w0 mb (encM M) 104) (.slice (some (if cap = 1 then (⟨b2, off, none⟩ : Addr) else ⟨b2, off + 2, none⟩)) (n - 1) (cap - 1)) 57 2 qs.plans.tail.length (qs.plans.tail.flatMap planRow)) := by
        subst hl
        have h9 := hp.tail rfl
        rw [hqe] at h9 ⊢
        have e1 : (List.flatMap planRow (p :: rest)).drop 2 = rest.flatMap planRow := by simp [planRow]
        rw [e1] at h9
        exact h9
      have HOW : Hid (∀ k, (Value.slice (some (if cap = 1 then (⟨b2, off, none⟩ : Addr) else ⟨b2, off + 2, none⟩)) (n - 1) (cap - 1)).ownBlock = some k → (M.tg t).pv.ownBlock = some k) := fun k hk => by
        rw [HPV.out, hform]
        by_cases hc : cap = 1
        · rw [if_pos hc] at hk; exact hk
        · rw [if_neg hc] at hk; exact hk
      have h1n : (1 : Int) ≤ (n : Int) := by omega
      have h0n : (0 : Int) < (n : Int) := by omega
      have h0n' : 0 < n := by omega
      subst hple
      clear hp hqe hbl hl hn0
      by_cases hc1 : cap = 1
      · subst hc1
        rw [if_pos rfl, show (1 : Nat) - 1 = 0 from rfl, show n - 1 = 0 by omega] at htl HOW
        go_wp2_with fail
        exact HKR.out _ _ _ (by kernel_rfl) rfl htl.out HOW.out
      · have hc1' : (cap = 1) = False := by simp [hc1]
        rw [if_neg hc1] at htl HOW
        go_wp2_with fail
        exact HKR.out _ _ _ (by kernel_rfl) rfl htl.out HOW.out
  case rest =>
    rintro act wc ⟨u, v, rfl, rfl, hv⟩
    obtain ⟨o, hoe⟩ : ∃ o, pl.o = o := ⟨_, rfl⟩
    obtain ⟨l, hle⟩ : ∃ l, pl.l = l := ⟨_, rfl⟩
    have HPLE : Hid (pl = ⟨o, l⟩) := by rw [← hoe, ← hle]; rfl
    obtain ⟨o0, o1, o2, o3⟩ := HPO.out
    rw [hoe] at o0 o1
    rw [hle] at o2 o3
    rw [hoe, hle]
    clear hoe hle
    unfold fr54a
    go_upto_region 8 with fail
    refine cutM (Km := fun act wc => ∃ (u : Nat → Value), act = fr54c mb t w0.heap.size b (actB o) u ∧ wc = (put w0 mb (encM { M with tg := upd M.tg t (gM1 (M.tg t) v b) }) 104).alloc (.cells #[.int .u8 o, .int .u32 l] 57)) ?rest2 ?first2
    case first2 =>
      obtain ⟨KR, hKR⟩ : ∃ KR : Act → World → Prop, KR = fun act wc => ∃ (u : Nat → Value), act = fr54c mb t w0.heap.size b (actB o) u ∧ wc = (put w0 mb (encM { M with tg := upd M.tg t (gM1 (M.tg t) v b) }) 104).alloc (.cells #[.int .u8 o, .int .u32 l] 57) := ⟨_, rfl⟩
      have HKR : Hid (∀ (act : Act), act = fr54c mb t w0.heap.size b (actB o) (fun i => act.tmps.getD i undef) → KR act ((put w0 mb (encM { M with tg := upd M.tg t (gM1 (M.tg t) v b) }) 104).alloc (.cells #[.int .u8 o, .int .u32 l] 57))) := fun act e1 => by rw [hKR]; exact ⟨_, e1, rfl⟩
      rw [← hKR]
      clear hKR
      have ho6 : o = 0 ∨ o = 1 ∨ o = 2 ∨ o = 3 ∨ o = 4 ∨ o = 5 := by omega
      clear o0 o1 o2 o3 HPLE
      rcases ho6 with rfl | rfl | rfl | rfl | rfl | rfl
      all_goals
        refine wp_region_list ?_
        go_wp2_with fail
        exact HKR.out _ (by kernel_rfl)
    case rest2 =>
      rintro act wc ⟨u, rfl, rfl⟩
      have hbm : b ≠ mb := HX.out.neT HB.out (by decide)
      have hbl : b < w0.heap.size := by have := HX.out.lt; rw [put_size] at this; exact this
      have hX0 : Blk w0 b (encT x) 148 := (put_heap_ne w0 mb b _ _ hbm).symm.trans HX.out
      obtain ⟨a3, cap3, hav⟩ := HA.out.form'
      obtain ⟨n3, hn3⟩ : ∃ n, (acts qs).length = n := ⟨_, rfl⟩
      have HHA := HA.out
      rw [hn3] at hav HHA ha
      rw [hav] at HHA
      have HA3 := hid_of HHA
      have HAV := hid_of hav
      have HN3 := hid_of hn3
      have HX0 := hid_of hX0
      clear HHA hav hn3 hX0
      have hbM : Blk ((put w0 mb (encM { M with tg := upd M.tg t (gM1 (M.tg t) v b) }) 104).alloc (.cells #[.int .u8 o, .int .u32 l] 57)) mb (encM { M with tg := upd M.tg t (gM1 (M.tg t) v b) }) 104 := (Blk.put_same hl0).alloc _
      have hbX : Blk ((put w0 mb (encM { M with tg := upd M.tg t (gM1 (M.tg t) v b) }) 104).alloc (.cells #[.int .u8 o, .int .u32 l] 57)) b (encT x) 148 := (HX0.out.put_ne hbm).alloc _
      have hbP : Blk ((put w0 mb (encM { M with tg := upd M.tg t (gM1 (M.tg t) v b) }) 104).alloc (.cells #[.int .u8 o, .int .u32 l] 57)) w0.heap.size #[.int .u8 o, .int .u32 l] 57 := by
        have h9 := Blk.new (put w0 mb (encM { M with tg := upd M.tg t (gM1 (M.tg t) v b) }) 104) #[.int .u8 o, .int .u32 l] 57
        rw [put_size] at h9; exact h9
      have HFR : Hid (∀ k, k < w0.heap.size → k ≠ mb → ((put w0 mb (encM { M with tg := upd M.tg t (gM1 (M.tg t) v b) }) 104).alloc (.cells #[.int .u8 o, .int .u32 l] 57)).heap[k]? = (put w0 mb (encM M) 104).heap[k]?) := fun k hk hne => by
        rw [Below.heap_alloc _ _ _ (by rw [put_size]; exact hk), put_heap_ne _ _ _ _ _ hne, put_heap_ne _ _ _ _ _ hne]
      have HSZ : Hid (((put w0 mb (encM { M with tg := upd M.tg t (gM1 (M.tg t) v b) }) 104).alloc (.cells #[.int .u8 o, .int .u32 l] 57)).heap.size = w0.heap.size + 1) := by simp [Hid, put_size]
      have HOS : Hid (((put w0 mb (encM { M with tg := upd M.tg t (gM1 (M.tg t) v b) }) 104).alloc (.cells #[.int .u8 o, .int .u32 l] 57)).os = w0.os ∧ ((put w0 mb (encM { M with tg := upd M.tg t (gM1 (M.tg t) v b) }) 104).alloc (.cells #[.int .u8 o, .int .u32 l] 57)).tape = w0.tape ∧ ((put w0 mb (encM { M with tg := upd M.tg t (gM1 (M.tg t) v b) }) 104).alloc (.cells #[.int .u8 o, .int .u32 l] 57)).output = w0.output) := ⟨rfl, rfl, rfl⟩
      have HBM := hid_of hbM
      have HBX := hid_of hbX
      have HBP := hid_of hbP
      clear hbM hbX hbP
      generalize (put w0 mb (encM { M with tg := upd M.tg t (gM1 (M.tg t) v b) }) 104).alloc (.cells #[.int .u8 o, .int .u32 l] 57) = W1 at *
      unfold fr54c
      go_upto_if 60 with fail
      refine cutM (Km := fun act wc => ∃ (u : Nat → Value) (g : TG), act = fr54b mb t w0.heap.size b u ∧ Hid (Blk wc mb (encM { M with tg := upd M.tg t g }) 104 ∧ Blk wc w0.heap.size #[.int .u8 o, .int .u32 l] 57 ∧ (∃ av' rd', g = { gM1 (M.tg t) v b with av := av', rd := rd' } ∧ Sl wc av' 54 4 (acts (sendP qs (lreqOf x))).length ((acts (sendP qs (lreqOf x))).flatMap lreqRow) ∧ rd' = sendRead qs (lreqOf x) ∧ (∀ k, av'.ownBlock = some k → (M.tg t).av.ownBlock = some k ∨ w0.heap.size ≤ k)) ∧ MapB wc (M.tg t).wm (sendMem qs (lreqOf x)) ∧ (wc.os = w0.os ∧ wc.tape = w0.tape ∧ wc.output = w0.output ∧ w0.heap.size ≤ wc.heap.size) ∧ ∀ k, k < w0.heap.size → k ≠ mb → k ≠ (M.tg t).wm → (M.tg t).av.ownBlock ≠ some k → wc.heap[k]? = (put w0 mb (encM M) 104).heap[k]?)) ?rest3 ?first3
      case first3 =>
        obtain ⟨KR, hKR⟩ : ∃ KR : Act → World → Prop, KR = fun act wc => ∃ (u : Nat → Value) (g : TG), act = fr54b mb t w0.heap.size b u ∧ Hid (Blk wc mb (encM { M with tg := upd M.tg t g }) 104 ∧ Blk wc w0.heap.size #[.int .u8 o, .int .u32 l] 57 ∧ (∃ av' rd', g = { gM1 (M.tg t) v b with av := av', rd := rd' } ∧ Sl wc av' 54 4 (acts (sendP qs (lreqOf x))).length ((acts (sendP qs (lreqOf x))).flatMap lreqRow) ∧ rd' = sendRead qs (lreqOf x) ∧ (∀ k, av'.ownBlock = some k → (M.tg t).av.ownBlock = some k ∨ w0.heap.size ≤ k)) ∧ MapB wc (M.tg t).wm (sendMem qs (lreqOf x)) ∧ (wc.os = w0.os ∧ wc.tape = w0.tape ∧ wc.output = w0.output ∧ w0.heap.size ≤ wc.heap.size) ∧ ∀ k, k < w0.heap.size → k ≠ mb → k ≠ (M.tg t).wm → (M.tg t).av.ownBlock ≠ some k → wc.heap[k]? = (put w0 mb (encM M) 104).heap[k]?) := ⟨_, rfl⟩
        have HKR : Hid (∀ (act : Act) (wc : World) (av' : Value) (rd' : Int), act = fr54b mb t w0.heap.size b (fun i => act.tmps.getD i undef) → Blk wc mb (encM { M with tg := upd M.tg t ⟨(M.tg t).wm, v, av', .pointer (some ⟨b, 0, none⟩), 1, 0, rd', (M.tg t).tu, (M.tg t).is⟩ }) 104 → Blk wc w0.heap.size #[.int .u8 o, .int .u32 l] 57 → Sl wc av' 54 4 (acts (sendP qs (lreqOf x))).length ((acts (sendP qs (lreqOf x))).flatMap lreqRow) → rd' = sendRead qs (lreqOf x) → (∀ k, av'.ownBlock = some k → (M.tg t).av.ownBlock = some k ∨ w0.heap.size ≤ k) → MapB wc (M.tg t).wm (sendMem qs (lreqOf x)) → (wc.os = w0.os ∧ wc.tape = w0.tape ∧ wc.output = w0.output ∧ w0.heap.size ≤ wc.heap.size) → (∀ k, k < w0.heap.size → k ≠ mb → k ≠ (M.tg t).wm → (M.tg t).av.ownBlock ≠ some k → wc.heap[k]? = (put w0 mb (encM M) 104).heap[k]?) → KR act wc) := fun act wc av' rd' z1 z2 z3 z4 z5 z6 z7 z8 z9 => by
          rw [hKR]; exact ⟨_, _, z1, z2, z3, ⟨av', rd', rfl, z4, z5, z6⟩, z7, z8, z9⟩
        rw [← hKR]
        clear hKR
        have hwm : (M.tg t).wm ≠ mb := fun e => by
          obtain ⟨es, c, hb9, _⟩ := HM.out
          have h9 : (put w0 mb (encM M) 104).heap[mb]? = some (.cells (encM M) 104 (0, 0)) := HB.out
          rw [e, h9] at hb9; cases hb9
        have hwl : (M.tg t).wm < w0.heap.size := by have := HM.out.lt; rw [put_size] at this; exact this
        have HM1 : Hid (MapB W1 (M.tg t).wm qs.mem) := HM.out.same (HFR.out _ hwl hwm)
        have hsA : ∀ k, (Value.slice a3 n3 cap3).ownBlock = some k → k < w0.heap.size ∧ k ≠ mb := fun k hk => by
          have h8 := HA3.out.lt k hk
          rw [put_size] at h8
          exact ⟨h8, HB.out.sl_ne (by decide) HA3.out k hk⟩
        have HA4 : Hid (Sl W1 (.slice a3 n3 cap3) 54 4 n3 ((acts qs).flatMap lreqRow)) := HA3.out.same fun k hk => HFR.out k (hsA k hk).1 (hsA k hk).2
        have HSA := hid_of hsA
        have HWM : Hid ((M.tg t).wm ≠ mb ∧ (M.tg t).wm < w0.heap.size) := ⟨hwm, hwl⟩
        have HPE : Hid (headPlan qs = ⟨o, l⟩) := HP0.out.trans HPLE.out
        have HACT : Hid (acts (sendP qs (lreqOf x)) = acts qs ++ (if actB o = true then [lreqOf x] else [])) := by
          show ((qs.atts ++ [(⟨lreqOf x, headPlan qs, actB (headPlan qs).o⟩ : Att)]).filter (fun z => z.acted)).map (fun z => z.r) = _
          rw [HPE.out, List.filter_append, List.map_append]
          unfold acts
          cases actB o <;> rfl
        clear hwm hwl hsA
        cases hact : actB o
        · have hAv := HAV.out
          have HFIN : Hid (KR = KR ∧ Sl W1 (.slice a3 n3 cap3) 54 4 (acts (sendP qs (lreqOf x))).length ((acts (sendP qs (lreqOf x))).flatMap lreqRow) ∧ (0 : Int) = sendRead qs (lreqOf x) ∧ MapB W1 (M.tg t).wm (sendMem qs (lreqOf x))) := by
            refine ⟨rfl, ?_, ?_, ?_⟩
            · have e : acts (sendP qs (lreqOf x)) = acts qs := by rw [HACT.out, hact]; simp
              rw [e, HN3.out]; exact HA4.out
            · unfold sendRead
              rw [HPE.out]
              have : (o == 0) = false := by
                cases h0 : o == 0
                · rfl
                · unfold actB at hact; rw [h0] at hact; cases hact
              simp only [this]; rfl
            · unfold sendMem
              rw [HPE.out, hact]; exact HM1.out
          have hbM2 := HBM.out
          unfold gM1 at hbM2
          rw [hAv] at hbM2
          have HBM2 := hid_of hbM2
          clear hbM2
          go_wp2_with fail
          exact HKR.out _ W1 (.slice a3 n3 cap3) 0 (by kernel_rfl) HBM2.out HBP.out HFIN.out.2.1 HFIN.out.2.2.1 (fun k hk => .inl (by rw [hAv]; exact hk)) HFIN.out.2.2.2 ⟨HOS.out.1, HOS.out.2.1, HOS.out.2.2, by rw [HSZ.out]; omega⟩ (fun k hk h1 _ _ => HFR.out k hk h1)
        · have t0 : W1.cell? ⟨b, 0, none⟩ = some (.int .i64 x.m) := by rw [HBX.out.cell, tg_0]
          have t1 : W1.cell? ⟨b, 1, none⟩ = some (.int .u32 x.q) := by rw [HBX.out.cell, tg_1]
          have t2 : W1.cell? ⟨b, 2, none⟩ = some (.bool x.rq.w) := by rw [HBX.out.cell, tg_2]
          have t3 : W1.cell? ⟨b, 3, none⟩ = some (.int .u32 x.rq.ad) := by rw [HBX.out.cell, tg_3]
          have t4 : W1.cell? ⟨b, 4, none⟩ = some (.int .u32 x.rq.da) := by rw [HBX.out.cell, tg_4]
          have ta : W1.cell? ⟨mb, 12 + t * 9 + 2, none⟩ = some (.slice a3 n3 cap3) := by
            rw [HBM.out.cell, mg_av _ _ ht]
            show some ((upd M.tg t (gM1 (M.tg t) v b) t).av) = _
            rw [upd_same]
            exact congrArg some HAV.out
          obtain ⟨i0, hinf, hz0, hz1, hz2⟩ := info_parts Tryd.info54
          have hid1 : IntKind.i64.wrap (x.m * 4) = x.m * 4 := by simp [IntKind.wrap, IntKind.bits, IntKind.signed]; omega
          have hid2 : x.m * 4 % 256 = x.m * 4 := by omega
          have hid3 : x.q.tmod 4 = x.q % 4 := Int.tmod_eq_emod_of_nonneg hq
          have hid4 : x.q % 4 % 256 = x.q % 4 := by omega
          have hid5 : (x.m * 4 + x.q % 4) % 256 = x.m * 4 + x.q % 4 := by omega
          go_upto_region 9 with fail
          refine wp_region_float [0, 1, 2, 3, 4, 5, 6, 7, 8, 9, 10, 11, 12, 13, 14, 15, 16, 17, 18, 19, 20, 21, 22, 23, 24, 25, 26, 27, 28, 29, 30, 31, 32, 33] [34, 35, 36, 37, 38] [0, 1, 2, 3, 5, 6, 7, 9, 10, 11, 12, 13, 15, 16, 17, 18, 19, 20, 21, 23, 24, 25, 26, 28, 29, 30, 31, 33] mixed (fun ω => ω.cell? ⟨mb, 12 + t * 9 + 2, none⟩ = some (.slice a3 n3 cap3) ∧ ω.cell? ⟨b, 0, none⟩ = some (.int .i64 x.m) ∧ ω.cell? ⟨b, 1, none⟩ = some (.int .u32 x.q) ∧ ω.cell? ⟨b, 2, none⟩ = some (.bool x.rq.w) ∧ ω.cell? ⟨b, 3, none⟩ = some (.int .u32 x.rq.ad) ∧ ω.cell? ⟨b, 4, none⟩ = some (.int .u32 x.rq.da)) (by kernel_rfl) rfl (by kernel_rfl) ⟨ta, t0, t1, t2, t3, t4⟩ ?_
          iterate 34 refine wpFl_op _ _ _ _ rfl rfl (fun ω hj => by first | (obtain ⟨j1, j2, j3, j4, j5, j6⟩ := hj rfl; go_simp; rfl) | (go_simp; rfl)) ?_
          refine wpFl_nil _ _ ?_
          simp only [Act.put, List.setIfInBounds_toArray]
          refine wpCh_one _ _ _ _ rfl ?_
          simp only [List.getElem_toArray, List.getElem_cons_succ, List.getElem_cons_zero]
          have lmb : mb < W1.heap.size := HBM.out.lt
          have lb : b < W1.heap.size := HBX.out.lt
          go_wp2_with fail
          refine ⟨⟨?_, ?_, ?_, ?_, ?_, ?_⟩, ?_⟩
          · simp [*, go_sem, World.cell?_alloc_lt]
          · simp [*, go_sem, World.cell?_alloc_lt]
          · simp [*, go_sem, World.cell?_alloc_lt]
          · simp [*, go_sem, World.cell?_alloc_lt]
          · simp [*, go_sem, World.cell?_alloc_lt]
          · simp [*, go_sem, World.cell?_alloc_lt]
          refine wpCh_rest _ _ _ _ [_, _, _, _] _ _ rfl (by kernel_rfl) ?_
          simp only [List.getElem_toArray, List.getElem_cons_succ, List.getElem_cons_zero]
          go_wp2_with (at_builtin; refine wpList_append_sl _ rfl (.tmp 65) (.tmp 95) 50 rfl 54 i0 (.agg #[.int .u8 0, .bool false, .int .u32 0, .int .u32 0]) 4 12 Tryd.underlying50 hinf hz0 hz1 hz2 rfl (by decide) _ _ _ rfl (HA4.out.same ?d0) ⟨W1.heap.size, 0, none⟩ 1 1 [.int .u8 (x.m * 4 + x.q % 4), .bool x.rq.w, .int .u32 x.rq.ad, .int .u32 x.rq.da] rfl rfl ?d1 ?d2 ?d3 ?d4 ?_)
          case d0 =>
            intro k hk
            show (W1.alloc _).heap[k]? = _
            exact Below.heap_alloc W1 _ k (HA4.out.lt k hk)
          case d1 => exact cells_new _ _ _ _ rfl
          case d2 => intro u hu; simp at hu; rcases hu with rfl | rfl | rfl | rfl <;> rfl
          case d3 => unfold maxLen; omega
          case d4 => omega
          intro v' w6 hsl hgr hnew
          obtain ⟨ad', cap', rfl⟩ := hsl.form'
          have hblk : ∀ k, k < W1.heap.size → (Value.slice a3 n3 cap3).ownBlock ≠ some k → w6.heap[k]? = W1.heap[k]? := by
            intro k hk hne'
            rw [hgr.block k (by show k < (W1.alloc _).heap.size; simp; omega) (Ne.symm hne')]
            show (W1.alloc _).heap[k]? = _
            exact Below.heap_alloc W1 _ k hk
          have hsb : ∀ k, (Value.slice a3 n3 cap3).ownBlock = some k → k ≠ b := HBX.out.sl_ne (by decide) HA4.out
          have hsp : ∀ k, (Value.slice a3 n3 cap3).ownBlock = some k → k ≠ w0.heap.size := HBP.out.sl_ne (by decide) HA4.out
          have hsw : ∀ k, (Value.slice a3 n3 cap3).ownBlock = some k → k ≠ (M.tg t).wm := Sl.ne_map HM1.out HA4.out
          have hM6 : Blk w6 mb (encM { M with tg := upd M.tg t (gM1 (M.tg t) v b) }) 104 := (hblk mb lmb (fun e => (HSA.out mb e).2 rfl)).trans HBM.out
          have hX6 : Blk w6 b (encT x) 148 := (hblk b lb (fun e => hsb b e rfl)).trans HBX.out
          have hP6 : Blk w6 w0.heap.size #[.int .u8 o, .int .u32 l] 57 := (hblk _ HBP.out.lt (fun e => hsp _ e rfl)).trans HBP.out
          have hW6 : MapB w6 (M.tg t).wm qs.mem := HM1.out.same (hblk _ HM1.out.lt (fun e => hsw _ e rfl))
          have hS6 : Sl w6 (.slice ad' (n3 + 1) cap') 54 4 (acts (sendP qs (lreqOf x))).length ((acts (sendP qs (lreqOf x))).flatMap lreqRow) := by
            rw [HACT.out, hact]
            simp only [if_true, List.length_append, List.flatMap_append, HN3.out]
            exact hsl.castM rfl (by simp [lreqRow, lreqOf, lid])
          have HO6 : Hid (∀ k, (Value.slice ad' (n3 + 1) cap').ownBlock = some k → (M.tg t).av.ownBlock = some k ∨ w0.heap.size ≤ k) := fun k hk => by
            rcases hnew k hk with h5 | h5
            · left; rw [HAV.out]; exact h5
            · right; have := HSZ.out; omega
          have HF6 : Hid (∀ k, k < w0.heap.size → k ≠ mb → (M.tg t).av.ownBlock ≠ some k → w6.heap[k]? = (put w0 mb (encM M) 104).heap[k]?) := fun k hk h1 h2 => by
            rw [hblk k (by rw [HSZ.out]; omega) (by rw [← HAV.out]; exact h2)]
            exact HFR.out k hk h1
          have HOS6 : Hid (w6.os = w0.os ∧ w6.tape = w0.tape ∧ w6.output = w0.output ∧ w0.heap.size ≤ w6.heap.size) := ⟨hgr.os.trans HOS.out.1, hgr.tape.trans HOS.out.2.1, hgr.output.trans HOS.out.2.2, by
            have h9 : (W1.alloc (.cells #[.int .u8 (x.m * 4 + x.q % 4), .bool x.rq.w, .int .u32 x.rq.ad, .int .u32 x.rq.da] 54)).heap.size ≤ w6.heap.size := hgr.size
            simp at h9
            have := HSZ.out; omega⟩
          have hmS : ∀ k, (Value.slice ad' (n3 + 1) cap').ownBlock = some k → k ≠ mb := hM6.sl_ne (by decide) hS6
          have HS6 := hid_of hS6
          have HX6 := hid_of hX6
          have HP6 := hid_of hP6
          have HW6 := hid_of hW6
          have HMS := hid_of hmS
          obtain ⟨w7, rfl, hl7⟩ := hM6.out
          clear hblk hsb hsp hsw hM6 hX6 hP6 hW6 hS6 hsl hgr hnew t0 t1 t2 t3 t4 ta hid1 hid2 hid3 hid4 hid5 hz0 hz1 hz2 hinf lb lmb hmS
          have s2 : w7.cell? ⟨b, 2, none⟩ = some (.bool x.rq.w) := by have h9 := HX6.out.cell 2; rw [put_cell_ne _ _ _ _ _ _ _ hbm, tg_2] at h9; exact h9
          have s3 : w7.cell? ⟨b, 3, none⟩ = some (.int .u32 x.rq.ad) := by have h9 := HX6.out.cell 3; rw [put_cell_ne _ _ _ _ _ _ _ hbm, tg_3] at h9; exact h9
          have s4 : w7.cell? ⟨b, 4, none⟩ = some (.int .u32 x.rq.da) := by have h9 := HX6.out.cell 4; rw [put_cell_ne _ _ _ _ _ _ _ hbm, tg_4] at h9; exact h9
          have pm : w0.heap.size ≠ mb := by omega
          have sp : w7.cell? ⟨w0.heap.size, 0, none⟩ = some (.int .u8 o) := by have h9 := HP6.out.cell 0; rw [put_cell_ne _ _ _ _ _ _ _ pm] at h9; exact h9
          obtain ⟨M2, hM2⟩ : ∃ M2, M2 = { M with tg := upd M.tg t ⟨(M.tg t).wm, v, .slice ad' (n3 + 1) cap', .pointer (some ⟨b, 0, none⟩), 1, 0, 0, (M.tg t).tu, (M.tg t).is⟩ } := ⟨_, rfl⟩
          have HFIN : Hid (∀ (act : Act) (wc : World) (rd' : Int), act = fr54b mb t w0.heap.size b (fun i => act.tmps.getD i undef) → rd' = sendRead qs (lreqOf x) → Blk wc mb (encM { M with tg := upd M.tg t ⟨(M.tg t).wm, v, .slice ad' (n3 + 1) cap', .pointer (some ⟨b, 0, none⟩), 1, 0, rd', (M.tg t).tu, (M.tg t).is⟩ }) 104 → MapB wc (M.tg t).wm (sendMem qs (lreqOf x)) → (wc.os = w7.os ∧ wc.tape = w7.tape ∧ wc.output = w7.output ∧ wc.heap.size = w7.heap.size) → (∀ k, k ≠ mb → k ≠ (M.tg t).wm → wc.heap[k]? = w7.heap[k]?) → KR act wc) := by
            intro act wc rd' z1 z2 z3 z4 z5 z6
            have hwp : w0.heap.size ≠ (M.tg t).wm := by have := HWM.out.2; omega
            refine HKR.out act wc _ rd' z1 z3 ?_ ?_ z2 HO6.out z4 ⟨z5.1.trans HOS6.out.1, z5.2.1.trans HOS6.out.2.1, z5.2.2.1.trans HOS6.out.2.2.1, by rw [z5.2.2.2]; have := HOS6.out.2.2.2; rw [put_size] at this; exact this⟩ (fun k hk h1 h2 h3 => ?_)
            · have h9 := HP6.out
              have e9 : (put w7 mb (encM { M with tg := upd M.tg t (gM1 (M.tg t) v b) }) 104).heap[w0.heap.size]? = w7.heap[w0.heap.size]? := put_heap_ne _ _ _ _ _ pm
              exact (z6 _ pm hwp).trans (e9.symm.trans h9)
            · refine HS6.out.same fun k hk => ?_
              have h1 := HMS.out k hk
              have h2 : k ≠ (M.tg t).wm := Sl.ne_map HW6.out HS6.out k hk
              rw [z6 k h1 h2]; exact (put_heap_ne _ _ _ _ _ h1).symm
            · have h9 := HF6.out k hk h1 h3
              rw [put_heap_ne _ _ _ _ _ h1] at h9
              exact (z6 k h1 h2).trans h9
          have HW7 : Hid (∀ cs n, MapB ((put w7 mb cs 104).drewN n) (M.tg t).wm qs.mem) := fun cs n => HW6.out.same (by
            show (put w7 mb cs 104).heap[(M.tg t).wm]? = _
            rw [put_heap_ne _ _ _ _ _ HWM.out.1, put_heap_ne _ _ _ _ _ HWM.out.1])
          unfold gM1
          have hbl7 : b < w7.heap.size := World.block_lt_of_cell? _ _ s2
          clear hM2
          cases hw : x.rq.w
          · have HSM : Hid (sendMem qs (lreqOf x) = qs.mem) := by
              unfold Hid sendMem
              have : (lreqOf x).w = false := hw
              rw [this, Bool.and_false]; rfl
            rw [hw] at s2
            have ho3 : o = 0 ∨ o = 3 ∨ o = 4 := by
              unfold actB at hact
              simp only [Bool.or_eq_true, beq_iff_eq] at hact
              omega
            rcases ho3 with rfl | rfl | rfl
            · have HRD : Hid (qs.mem x.rq.ad = sendRead qs (lreqOf x)) := by
                unfold Hid sendRead
                rw [HPE.out]
                have : (lreqOf x).w = false := hw
                rw [this]; rfl
              have hlk := run_lookup_words (P := Tryd.prog) (HW7.out (encM { M with tg := upd M.tg t ⟨(M.tg t).wm, v, .slice ad' (n3 + 1) cap', .pointer (some ⟨b, 0, none⟩), 1, 0, 0, (M.tg t).tu, (M.tg t).is⟩ }) 0) Tryd.underlying87 Tryd.underlying29 zero29 x.rq.ad
              have hlk' : ∀ n : Nat, (Instr.lookup 87 (.map (some (M.tg t).wm)) (.int .u32 x.rq.ad) false).run Tryd.prog ((put w7 mb (encM { M with tg := upd M.tg t ⟨(M.tg t).wm, v, .slice ad' (n3 + 1) cap', .pointer (some ⟨b, 0, none⟩), 1, 0, 0, (M.tg t).tu, (M.tg t).is⟩ }) 104).drewN n) = .ok (.int .u32 (qs.mem x.rq.ad)) ((put w7 mb (encM { M with tg := upd M.tg t ⟨(M.tg t).wm, v, .slice ad' (n3 + 1) cap', .pointer (some ⟨b, 0, none⟩), 1, 0, 0, (M.tg t).tu, (M.tg t).is⟩ }) 104).drewN n) := fun n => run_lookup_words (P := Tryd.prog) (HW7.out _ n) Tryd.underlying87 Tryd.underlying29 zero29 x.rq.ad
              have HLK := hid_of hlk'
              clear hlk hlk'
              go_upto_region 13 with fail
              refine wp_region_float [0, 1, 2, 3, 4, 5, 6, 7, 8, 9, 10, 11, 12] [13] [0, 1, 2, 3, 5, 6, 7, 8, 11, 12] mixed (fun ω => ∃ n : Nat, ω = (put w7 mb (encM { M with tg := upd M.tg t ⟨(M.tg t).wm, v, .slice ad' (n3 + 1) cap', .pointer (some ⟨b, 0, none⟩), 1, 0, 0, (M.tg t).tu, (M.tg t).is⟩ }) 104).drewN n) (by kernel_rfl) rfl (by kernel_rfl) ⟨1, rfl⟩ ?_
              iterate 10 refine wpFl_op _ _ _ _ rfl rfl (fun ω hj => by first | (go_simp; rfl) | (obtain ⟨n9, rfl⟩ := hj rfl; go_simp; rfl)) ?_
              refine wpFl_op _ _ _ _ rfl rfl (fun ω hj => by obtain ⟨n9, rfl⟩ := hj rfl; have h9 := HLK.out n9; go_simp; rfl) ?_
              iterate 2 refine wpFl_op _ _ _ _ rfl rfl (fun ω hj => by go_simp; rfl) ?_
              refine wpFl_nil _ _ ?_
              simp only [Act.put, List.setIfInBounds_toArray]
              refine wpCh_rest _ _ _ _ [_] _ _ rfl (by kernel_rfl) ?_
              simp only [List.getElem_toArray, List.getElem_cons_succ, List.getElem_cons_zero]
              go_wp2_with fail
              refine HFIN.out _ _ (qs.mem x.rq.ad) (by kernel_rfl) HRD.out (Blk.put_same hl7) ?_ ⟨rfl, rfl, rfl, put_size _ _ _ _⟩ (fun k h1 _ => put_heap_ne _ _ _ _ _ h1)
              rw [HSM.out]; exact HW7.out _ 0
            all_goals
              go_wp2_with fail
              refine HFIN.out _ _ 0 (by kernel_rfl) ?_ (Blk.put_same hl7) ?_ ⟨rfl, rfl, rfl, put_size _ _ _ _⟩ (fun k h1 _ => put_heap_ne _ _ _ _ _ h1)
              · unfold sendRead; rw [HPE.out]; rfl
              · rw [HSM.out]; exact HW7.out _ 0
          · have HSM : Hid (sendMem qs (lreqOf x) = fun y => if y = x.rq.ad then x.rq.da else qs.mem y) := by
              unfold Hid sendMem
              have : (lreqOf x).w = true := hw
              rw [HPE.out, this, hact]; rfl
            have HSR : Hid ((0 : Int) = sendRead qs (lreqOf x)) := by
              unfold Hid sendRead
              have : (lreqOf x).w = true := hw
              rw [this]; simp
            rw [hw] at s2
            obtain ⟨es, c9, hup, hmb9⟩ := run_update_words (P := Tryd.prog) (HW7.out (encM { M with tg := upd M.tg t ⟨(M.tg t).wm, v, .slice ad' (n3 + 1) cap', .pointer (some ⟨b, 0, none⟩), 1, 0, 0, (M.tg t).tu, (M.tg t).is⟩ }) 1) Tryd.underlying87 Tryd.underlying29 x.rq.ad x.rq.da
            have HUP := hid_of hup
            have HMB9 := hid_of hmb9
            clear hup hmb9
            go_upto_region 11 with fail
            refine wp_region_float [0, 1, 2, 3, 4, 5, 6, 7, 8, 9, 10, 11, 12, 13] [14] [0, 1, 2, 4, 5, 6, 7, 9, 10, 11, 12] mixed (fun ω => ω = (put w7 mb (encM { M with tg := upd M.tg t ⟨(M.tg t).wm, v, .slice ad' (n3 + 1) cap', .pointer (some ⟨b, 0, none⟩), 1, 0, 0, (M.tg t).tu, (M.tg t).is⟩ }) 104).drewN 1) (by kernel_rfl) rfl (by kernel_rfl) rfl ?_
            iterate 14 refine wpFl_op _ _ _ _ rfl rfl (fun ω hj => by first | (go_simp; rfl) | (obtain rfl := hj rfl; go_simp; rfl)) ?_
            refine wpFl_nil _ _ ?_
            simp only [Act.put, List.setIfInBounds_toArray]
            refine wpCh_rest _ _ _ _ [_] _ _ rfl (by kernel_rfl) ?_
            simp only [List.getElem_toArray, List.getElem_cons_succ, List.getElem_cons_zero]
            have hup : (Instr.mapUpdate 87 (.map (some (M.tg t).wm)) (.int .u32 x.rq.ad) (.int .u32 x.rq.da)).run Tryd.prog (put w7 mb (encM { M with tg := upd M.tg t ⟨(M.tg t).wm, v, .slice ad' (n3 + 1) cap', .pointer (some ⟨b, 0, none⟩), 1, 0, 0, (M.tg t).tu, (M.tg t).is⟩ }) 104).drew = .ok () (putO (put w7 mb (encM { M with tg := upd M.tg t ⟨(M.tg t).wm, v, .slice ad' (n3 + 1) cap', .pointer (some ⟨b, 0, none⟩), 1, 0, 0, (M.tg t).tu, (M.tg t).is⟩ }) 104).drew (M.tg t).wm (.map es c9)) := HUP.out
            go_wp2_with fail
            refine HFIN.out _ _ 0 (by kernel_rfl) HSR.out ?_ ?_ ⟨rfl, rfl, rfl, ?_⟩ (fun k h1 h2 => ?_)
            · exact (putO_heap_ne _ _ _ _ (Ne.symm HWM.out.1)).trans (Blk.put_same hl7)
            · rw [HSM.out]; exact HMB9.out
            · rw [putO_size]; exact put_size _ _ _ _
            · exact (putO_heap_ne _ _ _ _ h2).trans (put_heap_ne _ _ _ _ _ h1)
      case rest3 =>
        rintro act wc ⟨u, g, rfl, hK⟩
        have hbM := hK.out.1
        have hbP := hK.out.2.1
        obtain ⟨av', rd', hg, k3, k4, k5⟩ := hK.out.2.2.1
        have HK := hid_of hK.out
        have HFIN : Hid (∀ lf en rd : Int, lf = (if (sendP qs (lreqOf x)).due = 0 then 64 else (sendP qs (lreqOf x)).due) → en = (if (sendP qs (lreqOf x)).due = 0 then 4 else (sendP qs (lreqOf x)).rst) → rd = (if (sendP qs (lreqOf x)).due = 0 then 0 else (sendP qs (lreqOf x)).rda) → SendPost (put w0 mb (encM M) 104) (put wc mb (encM { M with tg := upd M.tg t ⟨(M.tg t).wm, v, av', .pointer (some ⟨b, 0, none⟩), lf, en, rd, (M.tg t).tu, (M.tg t).is⟩ }) 104) mb t M qs x) := by
          intro lf en rd e1 e2 e3
          obtain ⟨_, _, _, m1, ⟨m2, m3, m4, m5⟩, m6⟩ := HK.out
          have hlm : mb < wc.heap.size := hbM.lt
          have hwm : (M.tg t).wm ≠ mb := fun e => by
            obtain ⟨es, c, hb9, _⟩ := HM.out
            have h9 : (put w0 mb (encM M) 104).heap[mb]? = some (.cells (encM M) 104 (0, 0)) := HB.out
            rw [e, h9] at hb9; cases hb9
          have hvb : ∀ k, v.ownBlock = some k → k < w0.heap.size ∧ k ≠ mb ∧ k ≠ (M.tg t).wm ∧ (M.tg t).av.ownBlock ≠ some k := fun k hk => by
            have h9 := hv.out.2 k hk
            have h8 := HP.out.lt k h9
            rw [put_size] at h8
            exact ⟨h8, HB.out.sl_ne (by decide) HP.out k h9, Sl.ne_map HM.out HP.out k h9, Sl.ne_sl (by decide) HP.out HA.out k h9⟩
          refine ⟨⟨_, Blk.put_same hlm, rfl, hsv.symm, rfl, rfl, m1.same (put_heap_ne _ _ _ _ _ hwm), ?_, ?_, e1, e2, e3, hv.out.2, fun k hk => ?_⟩, m2, m3, m4, by rw [put_size, put_size]; exact m5, fun k hk h1 h2 h3 => ?_⟩
          · refine hv.out.1.same fun k hk => ?_
            obtain ⟨z1, z2, z3, z4⟩ := hvb k hk
            exact (put_heap_ne _ _ _ _ _ z2).trans (m6 k z1 z2 z3 z4)
          · refine k3.same fun k hk => put_heap_ne _ _ _ _ _ ?_
            exact hbM.sl_ne (by decide) k3 k hk
          · rw [put_size]; exact k5 k hk
          · rw [put_size] at hk
            exact (put_heap_ne _ _ _ _ _ h1).trans (m6 k hk h1 h2 h3)
        have hrd : rd' = (sendP qs (lreqOf x)).rda := k4
        have hdue : (sendP qs (lreqOf x)).due = sendDue ⟨o, l⟩ := by
          show sendDue (headPlan qs) = _
          rw [HP0.out, HPLE.out]
        have hrst : (sendP qs (lreqOf x)).rst = sendStatus o := by
          show sendStatus (headPlan qs).o = _
          rw [HP0.out, HPLE.out]
        rw [hdue, hrst, ← hrd] at HFIN
        subst hg
        have hpm : w0.heap.size ≠ mb := by omega
        obtain ⟨w5, rfl, hl5⟩ := hbM.out
        have p0 := hbP.cell 0
        have p1 := hbP.cell 1
        rw [put_cell_ne _ _ _ _ _ _ _ hpm] at p0 p1
        have p0' : w5.cell? ⟨w0.heap.size, 0, none⟩ = some (.int .u8 o) := p0
        have p1' : w5.cell? ⟨w0.heap.size, 1, none⟩ = some (.int .u32 l) := p1
        simp only [put_put] at HFIN
        have ho6 : o = 0 ∨ o = 1 ∨ o = 2 ∨ o = 3 ∨ o = 4 ∨ o = 5 := by omega
        clear hbM hbP k3 k4 k5 HK hrd hdue hrst p0 p1 hK hv o0 o1 HPLE
        unfold fr54b gM1
        have hDue : Hid (∀ o, sendDue ⟨o, l⟩ = if answers o = true ∧ l < 64 then l + 1 else 0) := fun o => by
          unfold sendDue; simp [and_comm]
        by_cases hl64 : 64 ≤ l
        · have hl64' : decide (64 ≤ l) = true := decide_eq_true hl64
          have HD0 : Hid (∀ o, sendDue ⟨o, l⟩ = 0) := fun o => by rw [hDue.out, if_neg (fun h => by omega)]
          rcases ho6 with rfl | rfl | rfl | rfl | rfl | rfl
          all_goals
            go_wp2_with fail
            exact bodyPost_end (v := .tuple #[]) (results_none rfl _ _ _) rfl ⟨rfl, HFIN.out _ _ _ (by rw [HD0.out]; rfl) (by rw [HD0.out]; rfl) (by rw [HD0.out]; rfl)⟩
        · have hl64' : decide (64 ≤ l) = false := decide_eq_false hl64
          have hla : (l + 1) % 4294967296 = l + 1 := by omega
          have HD1 : Hid (∀ o, answers o = true → sendDue ⟨o, l⟩ = l + 1) := fun o h => by rw [hDue.out, if_pos ⟨h, by omega⟩]
          have HD2 : Hid (∀ o, answers o = false → sendDue ⟨o, l⟩ = 0) := fun o h => by rw [hDue.out, if_neg (fun h' => by rw [h] at h'; cases h'.1)]
          have HL0 : Hid (¬ l + 1 = 0) := by unfold Hid; omega
          rcases ho6 with rfl | rfl | rfl | rfl | rfl | rfl
          all_goals
            go_wp2_with fail
            exact bodyPost_end (v := .tuple #[]) (results_none rfl _ _ _) rfl ⟨rfl, HFIN.out _ _ _ (by first | (rw [HD2.out _ rfl]; rfl) | (rw [HD1.out _ rfl, if_neg HL0.out])) (by first | (rw [HD2.out _ rfl]; rfl) | (rw [HD1.out _ rfl, if_neg HL0.out]; rfl)) (by first | (rw [HD2.out _ rfl]; rfl) | (rw [HD1.out _ rfl, if_neg HL0.out]))⟩
end Go.Proofs.Qxb6500750aDoor
