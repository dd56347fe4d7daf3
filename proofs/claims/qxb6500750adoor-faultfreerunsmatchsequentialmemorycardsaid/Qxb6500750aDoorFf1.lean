import Derived.Test.Qxb6500750aDoorFf0
namespace Go.Proofs.Qxb6500750aDoor
open Go.RowKit
attribute [local go_sem] put_size put_cell_same put_cell_ne put_frozen_same put_frozen_ne put_setCell_same put_setCell_ne put_drew
attribute [local go_sem] drewN_setCell drewN_alloc drewN_put upd_same upd_upd
theorem wpList_makeMapF {P : Program} {ops : Array Oper} {rest : List Oper} {o : Oper} {a : Act} {w : World} {Q : Exit → Act → World → Prop} (hgd : o.guard = none) (ty : TypeId) (ho : o.op = .makeMap ty none)
    (h : ∀ V n, V = w.alloc (.map #[] 0) → n = w.heap.size → wpList P ops Q rest (a.put o.dst (.map (some n))) V) : wpList P ops Q (o :: rest) a w :=
  wpList_plain hgd fun _ hK => by
    unfold Oper.wp execOp
    simp only [ho]
    go_simp
    exact hK _ _ (h _ _ rfl rfl)
set_option maxRecDepth 100000 in
set_option maxHeartbeats 4000000 in
theorem law10_any (a : Option Addr) (n c : Nat) (s : Nat → OpD) (w : World) (hs : Scr w a n s) (hG : Glb ownF w) :
    Calls Tryd.prog 10 #[.slice a n c] w fun e w' => e = .returned (.bool true) ∧ Below w.heap.size w w' := by
  by_cases hn : n ≤ 65536
  · have HS := hid_of hs
    have HG := hid_of hG
    clear hs hG
    have hmf : ∀ (fn : Fn) (first cap : Array Value) (w : World), (Instr.makeFunc fn first cap).run Tryd.prog w = .ok (.func fn first cap) w := fun _ _ _ _ => rfl
    go_enter Tryd.func10, Tryd.ntmps10
    go_wp2_with (go_at_call 11; refine (small_yes _ _ _ hn _).mono ?_; rintro e w' ⟨rfl, hw'⟩; obtain rfl := hw'.symm)
    refine (newRig_any ownF w).mono ?_
    rintro e w1 ⟨rfl, own1, xb, pbs, hr, hx⟩
    have HST := hid_of (st_fi HG.out hr hx)
    clear hr hx
    go_wp2_with ((with_reducible show wpList _ _ _ ({ dst := _, op := Op.makeMap 87 none, type := _, pos := _, after := _, guard := _ } :: _) _ _); refine wpList_makeMapF (by rfl) 87 (by rfl) ?_; intro V n1 hV hn1; subst hV; subst hn1)
    obtain ⟨L, hL⟩ : ∃ L, stL w1.heap.size w.heap.size xb pbs = L := ⟨_, rfl⟩
    have HPL : Hid (∀ (wr : World) (N : Nat) (own : Nat → Nat) (av ev : Nat → Value) (σ : SS) (acc : Nat → List Req) (exp : Nat → List Ret) (mem : Int → Int), FS w wr L N own av ev σ acc exp mem → N < 2000000 → ∀ o : OpD, OpOK o → (o.k ≠ 4 ∧ o.k ≠ 5 ∧ (o.k = 2 → o.b = 0 ∧ o.c < 64)) →
        Calls Tryd.prog 28 #[.agg #[.int .u8 o.k, .int .u32 o.a, .int .u32 o.b, .int .u32 o.c], .pointer (some ⟨w1.heap.size, 0, none⟩), .pointer (some ⟨w1.heap.size + 1 + 1 + 1, 0, none⟩), .pointer (some ⟨w1.heap.size + 1 + 1 + 1 + 1, 0, none⟩), .pointer (some ⟨w1.heap.size + 1 + 1, 0, none⟩), .pointer (some ⟨w1.heap.size + 1 + 1 + 1 + 1 + 1, 0, none⟩)] wr fun e w' => e = .returned (.bool true) ∧ ∃ own' av' ev' acc' exp' mem', FS w w' L (N + 1) own' av' ev' (stepS σ o) acc' exp' mem') := by
      intro wr N own av ev σ acc exp mem h hN o ho hop
      rw [← hL] at h ⊢
      exact h.play hN ho hop
    have HFS0 : Hid (FS w (stW w1 w.heap.size) L 0 (stO own1 w1.heap.size) (fun _ => .slice none 0 0) (fun _ => .slice none 0 0) ss0 (fun _ => []) (fun _ => []) (fun _ => 0)) := by
      unfold Hid
      rw [← hL]
      exact ⟨HST.out.1, FF.zero, ss0_inv, Thought.zero, HST.out.2⟩
    have hrb0 : L.rb = w1.heap.size := by rw [← hL]; rfl
    have hmb0 : L.mb = w1.heap.size + 1 + 1 := by rw [← hL]; rfl
    have hab0 : L.ab = w1.heap.size + 1 + 1 + 1 := by rw [← hL]; rfl
    have htb0 : L.tb = w1.heap.size + 1 + 1 + 1 + 1 + 1 := by rw [← hL]; rfl
    have HLE : Hid (L.rb = w1.heap.size ∧ L.mb = w1.heap.size + 1 + 1 ∧ L.ab = w1.heap.size + 1 + 1 + 1 ∧ L.tb = w1.heap.size + 1 + 1 + 1 + 1 + 1 ∧ L.rg = w.heap.size) := ⟨hrb0, hmb0, hab0, htb0, by rw [← hL]; rfl⟩
    clear hrb0 hmb0 hab0 htb0 hL HST hmf
    go_loopw [24] (fun i wr => ∃ k : Nat, k ≤ n ∧ i = .int .i64 k ∧ ∃ own' av ev σ acc exp mem, Hid (FS w wr L k own' av ev σ acc exp mem)) (fun i _ => n - (intOf i).toNat)
    case atStart => exact ⟨0, by omega, rfl, _, _, _, _, _, _, _, HFS0.out⟩
    case round =>
      obtain ⟨k, hk, rfl, own3, av, ev, σ, acc, exp, mem, hJ⟩ := hrel
      by_cases hkn : k < n
      · obtain ⟨hok, hcs⟩ := HS.out
        obtain ⟨b, off, rfl, hb, hcc⟩ := hcs (by omega)
        have hq := hcc k hkn
        have hbel := below_of_extF hJ.out.ext
        have q0 := (hbel.cell (p := ⟨b, off + k * 4, none⟩) hb).trans hq.1
        have q1 := (hbel.cell (p := ⟨b, off + k * 4 + 1, none⟩) hb).trans hq.2.1
        have q2 := (hbel.cell (p := ⟨b, off + k * 4 + 2, none⟩) hb).trans hq.2.2.1
        have q3 := (hbel.cell (p := ⟨b, off + k * 4 + 3, none⟩) hb).trans hq.2.2.2
        have hkk := hok k hkn
        generalize s k = o at *
        have hop : OpOK o := ⟨hkk.1.1, hkk.2.1, hkk.2.2.1, hkk.2.2.2⟩
        have hki : ((k : Nat) : Int) < (n : Nat) := by omega
        have HFA : Hid (FS w (wr.alloc (.cells #[.int .u8 o.k, .int .u32 o.a, .int .u32 o.b, .int .u32 o.c] 31)) L k own3 av ev σ acc exp mem) := hJ.out.below ((Below.refl _ _).alloc (Nat.le_refl _) _)
        have hmeas : Hid (n - (intOf (.int .i64 ((k : Nat) + 1))).toNat < n - (intOf (.int .i64 (k : Nat))).toNat) := by simp [intOf, Hid]; omega
        have HOP := hid_of hop
        clear hJ hok hcs hcc hq hbel hkk hop
        by_cases hf : o.k = 4 ∨ o.k = 5 ∨ (o.k = 2 ∧ (o.b ≠ 0 ∨ 64 ≤ o.c))
        · have HN : Hid (FS w (wr.alloc (.cells #[.int .u8 o.k, .int .u32 o.a, .int .u32 o.b, .int .u32 o.c] 31)) L (k + 1) own3 av ev σ acc exp mem) := ⟨HFA.out.fi, HFA.out.ff, (by have h9 := HFA.out.inv.step (o := ⟨6, 0, 0, 0⟩) ⟨by decide, by decide, by decide, by decide⟩ (by omega); exact h9), HFA.out.th, HFA.out.ext⟩
          clear HFA
          have hfin : ∀ k4 k5 : Bool, (o.k == 4) = k4 → (o.k == 5) = k5 → True := fun _ _ _ _ => trivial
          clear hfin
          rcases hf with e | e | ⟨e, e2⟩
          · have f4 : (o.k == 4) = true := by simp; exact e
            clear e
            go_wp2_with fail
            go_roundw
            case rel => exact ⟨k + 1, hkn, by go_num, _, _, _, _, _, _, _, HN⟩
            case measure => exact hmeas.out
          · have f4 : (o.k == 4) = false := by simp; omega
            have f5 : (o.k == 5) = true := by simp; exact e
            clear e
            go_wp2_with fail
            go_roundw
            case rel => exact ⟨k + 1, hkn, by go_num, _, _, _, _, _, _, _, HN⟩
            case measure => exact hmeas.out
          · have f4 : (o.k == 4) = false := by simp; omega
            have f5 : (o.k == 5) = false := by simp; omega
            have f2 : (o.k == 2) = true := by simp; exact e
            clear e
            by_cases hb0 : o.b = 0
            · have fb : (o.b != 0) = false := by simp; exact hb0
              have fc : decide (64 ≤ o.c) = true := by
                rcases e2 with h | h
                · exact absurd hb0 h
                · simp; exact h
              clear e2 hb0
              go_wp2_with fail
              go_roundw
              case rel => exact ⟨k + 1, hkn, by go_num, _, _, _, _, _, _, _, HN⟩
              case measure => exact hmeas.out
            · have fb : (o.b != 0) = true := by simp; exact hb0
              clear e2 hb0
              go_wp2_with fail
              go_roundw
              case rel => exact ⟨k + 1, hkn, by go_num, _, _, _, _, _, _, _, HN⟩
              case measure => exact hmeas.out
        · have hst := HPL.out _ _ _ _ _ _ _ _ _ HFA.out (by omega) o HOP.out ⟨fun e => hf (.inl e), fun e => hf (.inr (.inl e)), fun e => ⟨Decidable.byContradiction fun h => hf (.inr (.inr ⟨e, .inl h⟩)), Int.not_le.1 fun h => hf (.inr (.inr ⟨e, .inr h⟩))⟩⟩
          have HSTP := hid_of hst
          clear hst
          have f4 : (o.k == 4) = false := by simp; exact fun e => hf (.inl e)
          have f5 : (o.k == 5) = false := by simp; exact fun e => hf (.inr (.inl e))
          have fin : (o.k == 2) = false ∨ ((o.k == 2) = true ∧ (o.b != 0) = false ∧ decide (64 ≤ o.c) = false) := by
            by_cases e : o.k = 2
            · right
              refine ⟨by simp; exact e, ?_, ?_⟩
              · simp; exact Decidable.byContradiction fun h => hf (.inr (.inr ⟨e, .inl h⟩))
              · simp; exact Int.not_le.1 fun h => hf (.inr (.inr ⟨e, .inr h⟩))
            · left; simp; exact e
          clear hf HFA
          rcases fin with f2 | ⟨f2, fb, fc⟩
          all_goals
            go_wp2_with fail
            refine HSTP.out.mono ?_
            rintro e w5 ⟨rfl, own4, av4, ev4, acc4, exp4, mem4, h5⟩
            have HN := hid_of h5
            clear h5 HSTP
            go_wp2_with fail
            go_roundw
            case rel => exact ⟨k + 1, hkn, by go_num, _, _, _, _, _, _, _, HN⟩
            case measure => exact hmeas.out
      · obtain rfl : k = n := by omega
        have HM0 : Hid (FS w wr L (k + 0) own3 av ev σ acc exp mem ∧ Meas σ 3141) := ⟨hJ.out, hJ.out.start⟩
        have hki : ¬ ((k : Nat) : Int) < (k : Nat) := by omega
        clear hJ HFS0
        go_wp2_with fail
        go_loopw [12] (fun i wr => ∃ j : Nat, j ≤ 3141 ∧ i = .int .i64 j ∧ ∃ own' av ev σ acc exp mem, Hid (FS w wr L (k + j) own' av ev σ acc exp mem ∧ Meas σ (3141 - (j : Nat)))) (fun i _ => 3142 - (intOf i).toNat)
        case atStart => exact ⟨0, by omega, rfl, _, _, _, _, _, _, _, HM0.out⟩
        case round =>
          obtain ⟨j, hj, rfl, own5, av5, ev5, σ5, acc5, exp5, mem5, hJ⟩ := hrel
          obtain ⟨L1, L2, L3, L4, L5⟩ := HLE.out
          have hc0 : wr.cell? ⟨w1.heap.size, 0, none⟩ = some (.pointer (some ⟨w.heap.size, 0, none⟩)) := by rw [← L1, hJ.out.1.fi.rb.cell, ← L5]; rfl
          have hc1 : wr.cell? ⟨w.heap.size, 0, none⟩ = some (.pointer (some ⟨L.xb, 0, none⟩)) := by rw [← L5, hJ.out.1.fi.rr.blk.cell, gg_0]
          have HID := hid_of hJ.out.1.idle
          clear L1 L2 L3 L4 L5
          cases hid : idleX σ5.x
          · obtain ⟨m1, m2⟩ := hJ.out.1.more hJ.out.2 hid
            have hj1 : j ≤ 3140 := by omega
            have hne : ((j : Nat) : Int) ≠ 3144 := by omega
            have hne' : (((j : Nat) : Int) == 3144) = false := by simp; omega
            have HM2 : Hid (Meas (stepS σ5 opTF) (3141 - ((j + 1 : Nat) : Int))) := by
              have e : (3141 : Int) - ((j + 1 : Nat) : Int) = 3141 - (j : Nat) - 1 := by omega
              unfold Hid; rw [e]; exact m2
            rw [hid] at HID
            have hmeas : Hid (3142 - (intOf (.int .i64 ((j : Nat) + 1))).toNat < 3142 - (intOf (.int .i64 (j : Nat))).toNat) := by simp [intOf, Hid]; omega
            clear m1 m2 hid
            go_wp2_with fail
            refine HID.out.mono ?_
            rintro e w4 ⟨rfl, hb4⟩
            have HSTP : Hid (Calls Tryd.prog 28 #[.agg #[.int .u8 3, .int .u32 16383, .int .u32 0, .int .u32 0], .pointer (some ⟨w1.heap.size, 0, none⟩), .pointer (some ⟨w1.heap.size + 1 + 1 + 1, 0, none⟩), .pointer (some ⟨w1.heap.size + 1 + 1 + 1 + 1, 0, none⟩), .pointer (some ⟨w1.heap.size + 1 + 1, 0, none⟩), .pointer (some ⟨w1.heap.size + 1 + 1 + 1 + 1 + 1, 0, none⟩)] w4 _) := HPL.out w4 _ _ _ _ _ _ _ _ (hJ.out.1.below hb4) (by omega) opTF opTF_ok ⟨by decide, by decide, by decide⟩
            clear hJ hc0 hc1 HID hb4
            go_wp2_with fail
            refine HSTP.out.mono ?_
            rintro e w6 ⟨rfl, own4, av4, ev4, acc4, exp4, mem4, h5⟩
            have HN : Hid (FS w w6 L (k + (j + 1)) own4 av4 ev4 (stepS σ5 opTF) acc4 exp4 mem4 ∧ Meas (stepS σ5 opTF) (3141 - ((j + 1 : Nat) : Int))) := ⟨h5, HM2.out⟩
            clear h5 HSTP HM2
            go_wp2_with fail
            go_roundw
            case rel => exact ⟨j + 1, by omega, by go_num, _, _, _, _, _, _, _, HN⟩
            case measure => exact hmeas.out
          · rw [hid] at HID
            have HI := hid_of hid
            clear hid
            go_wp2_with fail
            refine HID.out.mono ?_
            rintro e w4 ⟨rfl, hb4⟩
            have hF4 := hJ.out.1.below hb4
            have HE1 := hid_of (hF4.end HI.out)
            obtain ⟨L1, L2, L3, L4, L5⟩ := HLE.out
            rw [L3, L4] at HE1
            have HF4 := hid_of hF4
            clear hJ hc0 hc1 HID hb4 HI hF4 L1 L2 L3 L4 L5
            go_wp2_with fail
            go_loopw [76] (fun i wr => ∃ q m : Nat, q ≤ 3 ∧ i = .int .i64 q ∧ wr = w4.drewN m) (fun i _ => 3 - (intOf i).toNat)
            case atStart => exact ⟨0, 0, by omega, rfl, rfl⟩
            case round =>
              obtain ⟨q, m, hq, rfl, rfl⟩ := hrel
              by_cases hq3 : q < 3
              · obtain ⟨ad, cap, f1, f2⟩ := HE1.out q hq3
                generalize (acc5 q).length = La at *
                go_wp2_with fail
                go_quiet (fail)
                go_wp2_with fail
                go_roundw
                case rel => exact ⟨q + 1, _, by omega, by go_num, rfl⟩
                case measure => simp [intOf]; omega
              · have hq' : ¬ ((q : Nat) : Int) < 3 := by omega
                have hFV : FS w (w4.drewN m) L (k + j) own5 av5 ev5 σ5 acc5 exp5 mem5 := HF4.out.below (below_drewN (Below.refl _ _))
                obtain ⟨es, clock, hbm, hent, _, hst⟩ := hFV.fi.mm.out
                have hst' := (Go.MapKept.stamped_iff es clock).1 hst
                have hmv : (w4.drewN m).cell? ⟨w1.heap.size + 1 + 1, 0, none⟩ = some (.map (some L.mm)) := by rw [← HLE.out.2.1, hFV.fi.mb.cell]; rfl
                have hmlt := hFV.fi.mm.lt
                have HBW : Hid (Below w.heap.size w (w4.drewN m)) := below_of_extF hFV.ext
                have HFV := hid_of hFV
                clear hFV hst HF4 HE1
                generalize w4.drewN m = V at *
                have hrg := run_range_map (P := Tryd.prog) V 87 29 29 L.mm es clock Tryd.underlying87 hbm
                have HENT := hid_of hent
                have HST := hid_of hst'
                clear hent hst'
                go_wp2_with fail
                go_loopw [90] (fun _ wr => ∃ seen : Array Nat, Hid (wr.heap[V.heap.size]? = some (.mapIter (some L.mm) clock seen clock) ∧ Below V.heap.size V wr)) (fun _ wr => (leftOf es (wr.iterSeen V.heap.size)).size)
                case atStart => exact ⟨#[], by show (V.heap.push _)[V.heap.size]? = _; simp, (Below.refl _ _).alloc (Nat.le_refl _) _⟩
                case round =>
                  obtain ⟨seen, hI⟩ := hrel
                  obtain ⟨hit, hbw⟩ := hI.out
                  have hbm2 : wr.heap[L.mm]? = some (.map es clock) := (hbw.block _ hmlt).trans hbm
                  have hms : Hid ((leftOf es (wr.iterSeen V.heap.size)).size = (leftOf es seen).size) := by unfold Hid World.iterSeen; rw [hit]
                  rcases run_next_at (P := Tryd.prog) wr 0 V.heap.size L.mm clock clock seen es clock hit hbm2 HST.out.1 (Nat.le_refl _) with ⟨h0, hrun⟩ | ⟨e, he, wd, hwd, hrun⟩
                  · have hnx : ∀ ty, (Instr.next (.pointer (some ⟨V.heap.size, 0, none⟩)) false ty).run Tryd.prog wr = _ := fun _ => hrun
                    have HFIN : Hid (Below w.heap.size w wr) := HBW.out.trans (hbw.mono HBW.out.size)
                    clear hI hit hbw hbm2 hrun
                    go_wp2_with fail
                    go_ret
                    exact ⟨rfl, HFIN.out⟩
                  · have hnx : ∀ ty, (Instr.next (.pointer (some ⟨V.heap.size, 0, none⟩)) false ty).run Tryd.prog wr = _ := fun _ => hrun
                    obtain ⟨ka, kd, k1, k2, k3, k4, k5⟩ := HENT.out e (mem_left he).1
                    have hlt : V.heap.size < wr.heap.size := (Array.getElem?_eq_some_iff.1 hit).1
                    have hbd : Below V.heap.size V wd := by rcases hwd with rfl | rfl <;> exact ⟨hbw.os, hbw.tape, hbw.output, hbw.size, hbw.block⟩
                    have hsd : wd.heap.size = wr.heap.size := by rcases hwd with rfl | rfl <;> rfl
                    have hbo : Below V.heap.size V (putO wd V.heap.size (.mapIter (some L.mm) clock (seen.push e.born) clock)) := ⟨hbd.os, hbd.tape, hbd.output, by simp [putO]; exact hbd.size, fun k hk => (putO_heap_ne _ _ _ _ (by omega)).trans (hbd.block k hk)⟩
                    have hit2 : (putO wd V.heap.size (.mapIter (some L.mm) clock (seen.push e.born) clock)).heap[V.heap.size]? = some (.mapIter (some L.mm) clock (seen.push e.born) clock) := putO_heap_same _ _ _ (by omega)
                    have hen := run_entry_at (P := Tryd.prog) (putO wd V.heap.size (.mapIter (some L.mm) clock (seen.push e.born) clock)) V.heap.size L.mm clock seen es clock e hit2 ((hbo.block _ hmlt).trans hbm) (mem_left he).1 HST.out.2.1
                    rw [k1, k2] at hen
                    rw [k1, k2] at hnx
                    have HMS : Hid ((leftOf es (seen.push e.born)).size < (leftOf es (wr.iterSeen V.heap.size)).size) := by
                      unfold Hid; rw [hms.out]; exact left_shrinks es seen e he
                    have HIT := hid_of hit2
                    have HBO := hid_of hbo
                    clear hI hit hbw hbm2 hrun hms hwd hbd hsd hit2 hbo he hlt
                    generalize putO wd V.heap.size (.mapIter (some L.mm) clock (seen.push e.born) clock) = X at *
                    generalize seen.push e.born = seen2 at *
                    have hFX := HFV.out.below HBO.out
                    have cx0 : X.cell? ⟨w1.heap.size, 0, none⟩ = some (.pointer (some ⟨w.heap.size, 0, none⟩)) := by rw [← HLE.out.1, hFX.fi.rb.cell, ← HLE.out.2.2.2.2]; rfl
                    have HDC := hid_of (mdecode_any ka X.drew hFX.fi.glb.maps)
                    have hd6 := k4
                    have hrbl := hFX.fi.rb.lt
                    rw [HLE.out.1] at hrbl
                    have HFX := hid_of hFX
                    subst k3
                    obtain ⟨D, hD⟩ : ∃ D, dec ka = D := ⟨_, rfl⟩
                    rw [hD] at hd6 HDC
                    have HD := hid_of hD
                    clear hFX k4 hD
                    go_upto_region 30 with fail
                    refine wp_region_float [0, 1, 3, 4, 7, 9] [2, 5, 6, 8, 10] [1, 3, 4, 7, 9] mixed (fun ω => ω.cell? ⟨w1.heap.size, 0, none⟩ = some (.pointer (some ⟨w.heap.size, 0, none⟩))) (by kernel_rfl) rfl (by kernel_rfl) cx0 ?_
                    refine wpFl_op _ _ _ _ rfl rfl (fun ω hj => by have j1 := hj rfl; go_simp; rfl) ?_
                    iterate 5 refine wpFl_op _ _ _ _ rfl rfl (fun ω hj => by go_simp; rfl) ?_
                    refine wpFl_nil _ _ ?_
                    simp only [Act.put, List.setIfInBounds_toArray]
                    refine wpCh_one _ _ _ _ rfl ?_
                    go_wp2_with fail
                    refine HDC.out.mono ?_
                    rintro e X2 ⟨rfl, hb2⟩
                    have hb2' : Below X.heap.size X X2 := ⟨hb2.os, hb2.tape, hb2.output, hb2.size, hb2.block⟩
                    have cx2 : X2.cell? ⟨w1.heap.size, 0, none⟩ = some (.pointer (some ⟨w.heap.size, 0, none⟩)) := by
                      have := hb2'.block w1.heap.size hrbl
                      simp only [World.cell?, this] at cx0 ⊢; exact cx0
                    have hF2 := HFX.out.below hb2'
                    have cl2 : X2.cell? ⟨w.heap.size, 1 + D, none⟩ = some (.pointer (some ⟨L.pbs D, 0, none⟩)) := by
                      rw [← HLE.out.2.2.2.2, hF2.fi.rr.blk.cell, gg_s _ _ _ hd6, lk_lt _ _ hd6]
                    have hDi : ((D : Nat) : Int) < 6 := by omega
                    have HWD : Hid (∀ n : Nat, Calls Tryd.prog 19 #[.pointer (some ⟨L.pbs D, 0, none⟩), .int .u32 ka] (X2.drewN n) fun e w' => e = .returned (.int .u32 (mem5 ka)) ∧ w' = X2.drewN n) := fun n => by
                      have := hF2.word ka (by rw [HD.out]; exact hd6) (X2.drewN n) (fun _ _ => rfl)
                      rw [HD.out] at this; exact this
                    have HNX : Hid (X2.heap[V.heap.size]? = some (.mapIter (some L.mm) clock seen2 clock) ∧ Below V.heap.size V X2) := ⟨(hb2'.block _ (Array.getElem?_eq_some_iff.1 HIT.out).1).trans HIT.out, HBO.out.trans (hb2'.mono HBO.out.size)⟩
                    clear hb2 hb2' hF2 cx0 hnx hen hrg
                    go_wp2_with fail
                    refine ⟨cx2, ?_⟩
                    refine wpCh_rest _ _ _ _ [_, _, _, _] _ _ rfl (by kernel_rfl) ?_
                    simp only [List.getElem_toArray, List.getElem_cons_succ, List.getElem_cons_zero]
                    go_wp2_with fail
                    refine (HWD.out 0).mono ?_
                    rintro e X3 ⟨rfl, hX3⟩
                    obtain rfl : X3 = X2 := hX3
                    clear HWD
                    go_wp2_with fail
                    go_roundw
                    case rel => exact ⟨seen2, HNX⟩
                    case measure =>
                      have e3 : X3.iterSeen V.heap.size = seen2 := by unfold World.iterSeen; rw [HNX.out.1]
                      rw [e3]; exact HMS.out
  · clear hs hG
    go_enter Tryd.func10, Tryd.ntmps10
    go_wp2_with (go_at_call 11; refine (small_no _ _ _ (by omega) _).mono ?_; rintro e w' ⟨rfl, hw'⟩; obtain rfl := hw'.symm)
    go_ret
    exact ⟨rfl, Below.refl _ _⟩
end Go.Proofs.Qxb6500750aDoor
