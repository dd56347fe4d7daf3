import Derived.Test.Qxb6500750aDoorOnTd
import Derived.Test.Qxb6500750aDoorOnTe
import Derived.Test.Qxb6500750aDoorOnTf
import Derived.Test.Qxb6500750aDoorOnTg
import Derived.Test.Qxb6500750aDoorOnTh
import Derived.Test.Qxb6500750aDoorOnTi
namespace Go.Proofs.Qxb6500750aDoor
open Go.RowKit
attribute [local go_sem] put_size put_cell_same put_cell_ne put_frozen_same put_frozen_ne put_setCell_same put_setCell_ne put_drew
attribute [local go_sem] drewN_setCell drewN_alloc drewN_put
attribute [local go_sem] ag_rg ag_av ag_gr ag_rt ag_tk ag_ba ag_cut ag_turn ag_pt ag_fm ag_f0 ag_f1 ag_f2 ag_f3 as_av as_gr as_rt as_tk as_ba as_cut as_turn as_pt as_fm
attribute [local go_sem] fg_0 fg_1 fg_3 fg_4 fg_5 fg_6 fs_6
attribute [local go_sem] as_f0t as_f1t as_f2t as_f3t upd_same upd_upd
set_option maxRecDepth 1000000 in
set_option maxHeartbeats 16000000 in
theorem onTick_any (ab xb : Nat) (pbs : Nat → Nat) (ρ : RepD) (W : Nat → Nat → Bool) (pk : Int) (seen : Nat → Int) (acc : Nat → List Req) (p : Nat → PS) (J J2 : Nat → BK → Prop) (B0 : BK) (w : World) (hB : Base ab xb pbs w B0 acc p) (hpk : 0 ≤ pk ∧ pk < 4294967296) (hJ0 : J 0 B0)
    (hJ : ∀ t, t < 7 → ∀ B, J t B → RoundOK ρ p acc W pk seen t B ∧ ∀ nb, B.fl nb = none → J (t + 1) (roundT ρ p acc t nb B)) (hJ7 : ∀ B, J 7 B → J2 0 B) (hJ2 : ∀ m, m < 3 → ∀ B, J2 m B → RetOK ρ m B ∧ J2 (m + 1) (retM ρ m B)) :
    Calls Tryd.prog 46 #[.pointer (some ⟨ab, 0, none⟩), .int .u32 pk, .agg (encR ρ), .agg (encW W), .agg (seenC seen)] w fun e w' => e = .returned (.tuple #[]) ∧ ∃ B', J2 3 B' ∧ ∃ W0, Below w.heap.size w W0 ∧ Later ab xb pbs B0 acc p W0 B' w' := by
  have HJ := hid_of hJ
  have HJ0 := hid_of hJ0
  have HJ7 := hid_of hJ7
  have HJ2 := hid_of hJ2
  have HB := hid_of hB
  clear hJ hJ0 hB hJ7 hJ2
  go_enter Tryd.func46, Tryd.ntmps46
  go_wp2_with fail
  have hz : (((w.alloc (.cells (encR ρ) 41)).alloc (.cells (encW W) 134)).alloc (.cells (seenC seen) 133)).heap.size = w.heap.size + 3 := by simp
  have hw0 : Below w.heap.size w (((w.alloc (.cells (encR ρ) 41)).alloc (.cells (encW W) 134)).alloc (.cells (seenC seen) 133)) := (((Below.refl _ _).alloc (Nat.le_refl _) _).alloc (by simp) _).alloc (by simp; omega) _
  have hb1 : Blk (((w.alloc (.cells (encR ρ) 41)).alloc (.cells (encW W) 134)).alloc (.cells (seenC seen) 133)) w.heap.size (encR ρ) 41 := ((Blk.new w (encR ρ) 41).alloc _).alloc _
  have hb2 : Blk (((w.alloc (.cells (encR ρ) 41)).alloc (.cells (encW W) 134)).alloc (.cells (seenC seen) 133)) (w.heap.size + 1) (encW W) 134 := by
    have := (Blk.new (w.alloc (.cells (encR ρ) 41)) (encW W) 134).alloc (.cells (seenC seen) 133)
    simp at this; exact this
  have hb3 : Blk (((w.alloc (.cells (encR ρ) 41)).alloc (.cells (encW W) 134)).alloc (.cells (seenC seen) 133)) (w.heap.size + 1 + 1) (seenC seen) 133 := by
    have := Blk.new ((w.alloc (.cells (encR ρ) 41)).alloc (.cells (encW W) 134)) (seenC seen) 133
    simp at this; exact this
  have hbase : Base ab xb pbs (((w.alloc (.cells (encR ρ) 41)).alloc (.cells (encW W) 134)).alloc (.cells (seenC seen) 133)) B0 acc p := by
    have hf : Frm ab B0.a.fm (fun k => B0.fl k ≠ none) w (((w.alloc (.cells (encR ρ) 41)).alloc (.cells (encW W) 134)).alloc (.cells (seenC seen) 133)) := Frm.of_below hw0
    have hbk := HB.out.bk
    exact HB.out.same hf rfl ⟨(hw0.block _ hbk.blk.lt).trans hbk.blk, hbk.map.same (hw0.block _ hbk.map.lt), fun b f h => (hw0.block _ (hbk.fl b f h).lt).trans (hbk.fl b f h)⟩ rfl rfl
  have HW0 := hid_of hw0
  have HB1 := hid_of hb1
  have HB2 := hid_of hb2
  have HB3 := hid_of hb3
  have HBS := hid_of hbase
  have HZ := hid_of hz
  clear hw0 hb1 hb2 hb3 hbase hz HB
  generalize (((w.alloc (.cells (encR ρ) 41)).alloc (.cells (encW W) 134)).alloc (.cells (seenC seen) 133)) = W0 at *
  refine wp_loop (fun act wr => ∃ (u : Nat → Value) (k : Nat) (B : BK), act = fr46 ab w.heap.size pk ρ W seen u k ∧ k ≤ 7 ∧ Hid (J k B ∧ Later ab xb pbs B0 acc p W0 B wr)) (fun act _ => 7 - (intOf (act.tmps.getD 10 undef)).toNat) ?start ?round
  case start => exact ⟨fun _ => undef, 0, B0, by kernel_rfl, by omega, HJ0.out, Later.refl HBS.out⟩
  case round =>
    intro a0 wr hrel
    obtain ⟨u, k, B, rfl, hk, hJB⟩ := hrel
    obtain ⟨KR, hKR⟩ : ∃ KR : Act → World → Prop, KR = fun a' w' => ((fun act wr => ∃ (u : Nat → Value) (k : Nat) (B : BK), act = fr46 ab w.heap.size pk ρ W seen u k ∧ k ≤ 7 ∧ Hid (J k B ∧ Later ab xb pbs B0 acc p W0 B wr)) a' w' ∧ 7 - (intOf (a'.tmps.getD 10 undef)).toNat < 7 - (intOf ((fr46 ab w.heap.size pk ρ W seen u k).tmps.getD 10 undef)).toNat) := ⟨_, rfl⟩
    have HKR : Hid (∀ (act : Act) (w' : World) (B' : BK), act = fr46 ab w.heap.size pk ρ W seen (fun i => act.tmps.getD i undef) (k + 1) → k < 7 → J (k + 1) B' → Later ab xb pbs B0 acc p W0 B' w' → KR act w') := fun act w' B' e hk7 hj hl => by
      rw [hKR]
      refine ⟨⟨_, k + 1, B', e, hk7, hj, hl⟩, ?_⟩
      have e1 : act.tmps.getD 10 undef = .int .i64 ((k + 1 : Nat) : Int) := by rw [e]; rfl
      have e2 : (fr46 ab w.heap.size pk ρ W seen u k).tmps.getD 10 undef = .int .i64 ((k : Nat) : Int) := rfl
      simp only [e1, e2, intOf]
      omega
    rw [← hKR]
    clear hKR
    by_cases hk7 : k < 7
    · rcases h1 : ρ.rs k
      · rcases h2 : ρ.rp k
        · by_cases h3 : ρ.g k = -1
          · by_cases h4 : k < 6
            · exact rnd46_4 ab xb pbs ρ W pk seen acc p J B0 w W0 hpk HJ HB1 HB2 HB3 HBS HZ u k B wr hk hk7 hJB KR HKR _ _ (by kernel_rfl) h1 h2 h3 h4
            · exact rnd46_5 ab xb pbs ρ W pk seen acc p J B0 w W0 hpk HJ HB1 HB2 HB3 HBS HZ u k B wr hk hk7 hJB KR HKR _ _ (by kernel_rfl) h1 h2 h3 h4
          · by_cases h4 : k < 6
            · exact rnd46_6 ab xb pbs ρ W pk seen acc p J B0 w W0 hpk HJ HB1 HB2 HB3 HBS HZ u k B wr hk hk7 hJB KR HKR _ _ (by kernel_rfl) h1 h2 h3 h4
            · exact rnd46_7 ab xb pbs ρ W pk seen acc p J B0 w W0 hpk HJ HB1 HB2 HB3 HBS HZ u k B wr hk hk7 hJB KR HKR _ _ (by kernel_rfl) h1 h2 h3 h4
        · by_cases h3 : ρ.g k = -1
          · rcases hc : B.a.cut k
            · exact rnd46_2f ab xb pbs ρ W pk seen acc p J B0 w W0 hpk HJ HB1 HB2 HB3 HBS HZ u k B wr hk hk7 hJB KR HKR _ _ (by kernel_rfl) h1 h2 h3 hc
            · exact rnd46_2t ab xb pbs ρ W pk seen acc p J B0 w W0 hpk HJ HB1 HB2 HB3 HBS HZ u k B wr hk hk7 hJB KR HKR _ _ (by kernel_rfl) h1 h2 h3 hc
          · exact rnd46_3 ab xb pbs ρ W pk seen acc p J B0 w W0 hpk HJ HB1 HB2 HB3 HBS HZ u k B wr hk hk7 hJB KR HKR _ _ (by kernel_rfl) h1 h2 h3
      · exact rnd46_1 ab xb pbs ρ W pk seen acc p J B0 w W0 hpk HJ HB1 HB2 HB3 HBS HZ u k B wr hk hk7 hJB KR HKR _ _ (by kernel_rfl) h1
    · have hki : ¬ ((k : Nat) : Int) < 7 := by omega
      unfold fr46
      have hk' : k = 7 := by omega
      obtain ⟨hj, hl⟩ := hJB.out
      have hr1 := hl.blk HBS.out.bk HB1.out (by decide) (by decide)
      have HRG : Hid (wr.rangeAt w.heap.size 7 (retsV ρ).toList) := rets_range hr1
      have HIX := hid_of (index_rets ρ)
      have HJS : Hid (J2 0 B ∧ Later ab xb pbs B0 acc p W0 B wr) := ⟨HJ7.out B (by rw [← hk']; exact hj), hl⟩
      clear hr1 hj hl hJB hk' HJ HJ7 HB1 HB2 HB3
      obtain ⟨R, hR⟩ : ∃ R, retsV ρ = R := ⟨_, rfl⟩
      rw [hR] at HRG HIX
      have HRS18 : Hid ((Tryd.prog.info? 39).map (·.size) = some R.toList.length) := by rw [← hR]; rfl
      clear hR
      go_upto_region 30 with fail
      refine wp_region_list ?_
      go_wp2_with ((with_reducible show wpList _ _ _ ({ dst := _, op := Op.load 39 _, type := _, pos := _, after := _, guard := _ } :: _) _ _); refine wpList_load_mid rfl 39 (.tmp 287) rfl w.heap.size 7 rfl R.toList _ HRG.out (by rfl) (by rfl) HRS18.out ?_; rw [Array.toArray_toList])
      go_loopw [289] (fun i wr => ∃ m : Nat, m ≤ 3 ∧ i = .int .i64 m ∧ ∃ B, Hid (J2 m B ∧ Later ab xb pbs B0 acc p W0 B wr)) (fun i _ => 3 - (intOf i).toNat)
      case atStart => exact ⟨0, by omega, rfl, B, HJS.out⟩
      case round =>
        obtain ⟨m, hm, rfl, B2, hJB2⟩ := hrel
        by_cases hm3 : m < 3
        · obtain ⟨hj, hl⟩ := hJB2.out
          obtain ⟨hret, hnext⟩ := HJ2.out m hm3 B2 hj
          have hix := HIX.out m hm3
          have hbk := hl.base.bk.blk
          have HLT := hid_of hl
          have hmeas : Hid (3 - (intOf (.int .i64 ((m : Nat) + 1))).toNat < 3 - (intOf (.int .i64 (m : Nat))).toNat) := by simp [intOf, Hid]; omega
          have HNX := hid_of hnext
          have hadd : IntKind.i64.wrap (((m : Nat) : Int) + 1) = (m : Nat) + 1 := by simp [IntKind.wrap, IntKind.bits, IntKind.signed]; omega
          have hmi : ((m : Nat) : Int) < 3 := by omega
          obtain ⟨w1, rfl, hlw⟩ := hbk.out
          obtain ⟨va, hva⟩ : ∃ va, (ρ.r m).va = va := ⟨_, rfl⟩
          rw [hva] at hix
          have HVA := hid_of hva
          have HRET := hid_of hret
          clear hj hl hJB2 hret hnext hbk HJ2 HIX hva
          have HTK : Hid (∀ c, Later ab xb pbs B0 acc p W0 (tkM m B2) ((put w1 ab (encA { B2.a with tk := upd B2.a.tk m false }) 82).alloc c)) := fun c => HLT.out.tk hlw m c
          cases va
          · have HJN : Hid (J2 (m + 1) (tkM m B2)) := by have := HNX.out; rw [retM_no HVA.out] at this; exact this
            go_wp2_with fail
            go_roundw
            case rel => exact ⟨m + 1, hm3, by go_num, _, HJN.out, HTK.out _⟩
            case measure => exact hmeas.out
          · have HRC := hid_of (fun c => ret_call2 hm3 HRET.out HVA.out (HTK.out c))
            go_wp2_with fail
            refine (HRC.out _).mono ?_
            rintro e w5 ⟨rfl, hL5⟩
            have HL5 := hid_of hL5
            clear hL5
            go_wp2_with fail
            go_roundw
            case rel => exact ⟨m + 1, hm3, by go_num, _, HNX.out, HL5.out⟩
            case measure => exact hmeas.out
        · have hmi : ¬ ((m : Nat) : Int) < 3 := by omega
          have hm' : m = 3 := by omega
          have HFIN : Hid (∃ B', J2 3 B' ∧ ∃ W0, Below w.heap.size w W0 ∧ Later ab xb pbs B0 acc p W0 B' wr) := ⟨B2, by rw [← hm']; exact hJB2.out.1, W0, HW0.out, hJB2.out.2⟩
          clear hm' hJB2 HJS HIX HJ2
          go_wp2_with fail
          refine bodyPost_end (v := .tuple #[]) (results_none rfl _ _ _) rfl ?_
          exact ⟨rfl, HFIN.out⟩
end Go.Proofs.Qxb6500750aDoor
