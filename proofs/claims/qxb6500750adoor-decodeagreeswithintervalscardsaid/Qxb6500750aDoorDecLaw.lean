import Derived.Test.Qxb6500750aDoorDec
import Derived.WalkLawsBesides
namespace Go.Proofs.Qxb6500750aDoor
open Go.RowKit

/-- One step of a script, as data. -/
structure OpD where
  kind : Int
  a : Int
  b : Int
  c : Int
def U32 (x : Int) : Prop := 0 ≤ x ∧ x < 4294967296
def U8 (x : Int) : Prop := 0 ≤ x ∧ x < 256
def OpD.Ok (o : OpD) : Prop := U8 o.kind ∧ U32 o.a ∧ U32 o.b ∧ U32 o.c
/-- The slice (a, n, ..) reads as the script s. -/
def Scr (w : World) (a : Option Addr) (n : Nat) (s : Nat → OpD) : Prop :=
  (∀ k, k < n → (s k).Ok) ∧ (0 < n → ∃ b off, a = some ⟨b, off, none⟩ ∧ b < w.heap.size ∧ ∀ k, k < n →
    w.cell? ⟨b, off + k * 4, none⟩ = some (.int .u8 (s k).kind) ∧ w.cell? ⟨b, off + k * 4 + 1, none⟩ = some (.int .u32 (s k).a) ∧
    w.cell? ⟨b, off + k * 4 + 2, none⟩ = some (.int .u32 (s k).b) ∧ w.cell? ⟨b, off + k * 4 + 3, none⟩ = some (.int .u32 (s k).c))

theorem Tryd.info29 : (Tryd.prog.info? 29).map (fun i => (i.zero, i.size, i.bytes)) = some (some (.int .u32 0), 1, 4) := by kernel_rfl

theorem Wins.below {w w' : World} {B : Nat} (h : Wins w) (hb : Below B w w') (h2 : 2 ≤ B) : Wins w' := fun k hk =>
  ⟨(hb.cell (p := ⟨1, 2 * k, none⟩) (show 1 < B by omega)).trans (h k hk).1, (hb.cell (p := ⟨1, 2 * k + 1, none⟩) (show 1 < B by omega)).trans (h k hk).2⟩
theorem Maps.below {w w' : World} {B : Nat} (h : Maps w) (hb : Below B w w') (h2 : 2 ≤ B) : Maps w' := fun k hk =>
  ⟨(hb.cell (p := ⟨0, 2 * k, none⟩) (show 0 < B by omega)).trans (h k hk).1, (hb.cell (p := ⟨0, 2 * k + 1, none⟩) (show 0 < B by omega)).trans (h k hk).2⟩

theorem cells_new (w : World) (l : List Value) (T : TypeId) (b : Nat) (hb : b = w.heap.size) : ∀ j u, l[j]? = some u → (w.alloc (.cells l.toArray T)).cell? ((⟨b, 0, none⟩ : Addr).add j) = some u := by
  intro j u hj
  have hadd : (⟨b, 0, none⟩ : Addr).add j = ⟨b, j, none⟩ := by unfold Addr.add; split <;> simp_all
  rw [hadd, hb, World.cell?_alloc_new]
  simpa using hj

theorem pow_shr {d : Nat} (h : d < 7) : ((2 : Int) ^ d / 128) = 0 := by
  have : d = 0 ∨ d = 1 ∨ d = 2 ∨ d = 3 ∨ d = 4 ∨ d = 5 ∨ d = 6 := by omega
  rcases this with rfl | rfl | rfl | rfl | rfl | rfl | rfl <;> decide
theorem pow_shl {d : Nat} (h : d < 7) : ((2 : Int) ^ d % 256) = 2 ^ d := by
  have : d = 0 ∨ d = 1 ∨ d = 2 ∨ d = 3 ∨ d = 4 ∨ d = 5 ∨ d = 6 := by omega
  rcases this with rfl | rfl | rfl | rfl | rfl | rfl | rfl <;> decide

set_option maxRecDepth 100000 in
set_option maxHeartbeats 2000000 in
theorem decodeLaw_walk (a : Option Addr) (n c : Nat) (s : Nat → OpD) (hn : n ≤ 65536) (w : World) (hs : Scr w a n s) (hW : Wins w) (hM : Maps w) (h2 : 2 ≤ w.heap.size) :
    Calls Tryd.prog 4 #[.slice a n c] w fun e w' => e = .returned (.bool true) ∧ Below w.heap.size w w' := by
  obtain ⟨i0, hi, hz0, hz1, hz2⟩ := info_parts Tryd.info29
  obtain ⟨c0, d0⟩ := hM 0 (by decide)
  obtain ⟨c1, d1⟩ := hM 1 (by decide)
  obtain ⟨c2, d2⟩ := hM 2 (by decide)
  obtain ⟨c3, d3⟩ := hM 3 (by decide)
  obtain ⟨c4, d4⟩ := hM 4 (by decide)
  obtain ⟨c5, d5⟩ := hM 5 (by decide)
  simp only [Nat.reduceMul, Nat.reduceAdd] at c0 c1 c2 c3 c4 c5 d0 d1 d2 d3 d4 d5
  go_enter Tryd.func4, Tryd.ntmps4
  go_wp2_with (go_at_call 11; refine (small_yes _ _ _ hn _).mono ?_; rintro e w' ⟨rfl, hw'⟩; obtain rfl := hw'.symm)
  clear c0 c1 c2 c3 c4 c5 d0 d1 d2 d3 d4 d5
  go_loopw [3, 17] (fun v i wr => ∃ (k : Nat) (xs : List Int), k ≤ 6 ∧ i = .int .i64 k ∧ (∀ x ∈ xs, U32 x) ∧ xs.length = 4 * k ∧ wr.ownsRow w.heap.size 29 1 v xs.length (xs.map (Value.int .u32)) ∧ Below w.heap.size w wr) (fun _ i _ => 6 - (intOf i).toNat)
  case atStart => exact ⟨0, [], by omega, rfl, by simp, rfl, World.ownsRow_nil _ _ _ _, Below.refl _ _⟩
  case round =>
    obtain ⟨k, xs, hk, rfl, hx, hl, hown, hb⟩ := hrel
    by_cases hlt : k < 6
    · have hix := index_map k hlt
      go_wp2_with (at_builtin; refine wpList_append_own _ rfl (.tmp 20) (.tmp 31) 64 rfl w.heap.size 29 i0 (.int .u32 0) 1 4 Tryd.underlying64 hi hz0 hz1 hz2 rfl (by decide) _ _ _ rfl ((hown.alloc _).alloc _) ⟨wr.heap.size + 1, 0, none⟩ 4 4 [.int .u32 (mfirst k), .int .u32 (mlast k), .int .u32 ((mfirst k - 1) % 4294967296), .int .u32 ((mlast k + 1) % 4294967296)] rfl rfl ?c1 ?c2 ?c3 ?c4 ?c5 ?_)
      case c1 => exact cells_new _ _ _ _ (by simp)
      case c2 => intro u hu; simp at hu; rcases hu with rfl | rfl | rfl | rfl <;> rfl
      case c3 => unfold maxLen; omega
      case c4 => omega
      case c5 => have := hb.size; simp; omega
      intro v' w1 hown' hgrow _
      have hf : U32 (mfirst k) ∧ U32 (mlast k) := by
        have : k = 0 ∨ k = 1 ∨ k = 2 ∨ k = 3 ∨ k = 4 ∨ k = 5 := by omega
        rcases this with rfl | rfl | rfl | rfl | rfl | rfl <;> simp [U32, mfirst, mlast]
      have R : Hid (∃ ys : List Int, (∀ x ∈ ys, U32 x) ∧ ys.length = 4 * (k + 1) ∧ w1.ownsRow w.heap.size 29 1 v' ys.length (ys.map (Value.int .u32)) ∧ Below w.heap.size w w1) := by
        refine ⟨xs ++ [mfirst k, mlast k, (mfirst k - 1) % 4294967296, (mlast k + 1) % 4294967296], ?_, by simp; omega, by simpa [hl] using hown', ?_⟩
        · intro x hxm
          rcases List.mem_append.1 hxm with h | h
          · exact hx x h
          · simp at h
            rcases h with rfl | rfl | rfl | rfl
            · exact hf.1
            · exact hf.2
            · exact ⟨by omega, by omega⟩
            · exact ⟨by omega, by omega⟩
        · refine ((hb.alloc hb.size _).alloc (by have := hb.size; simp; omega) _).grown hgrow (by have := hb.size; simp; omega) (fun j hj => (hown.lt j hj).1)
      clear hown' hgrow hown hb hx hl
      go_wp2
      go_roundw
      case rel =>
        obtain ⟨ys, a1, a2, a3, a4⟩ := R
        exact ⟨k + 1, ys, by omega, by go_num, a1, a2, a3, a4⟩
      case measure => simp [intOf]; omega
    · have hl24 : xs.length = 24 := by omega
      have Hl24 : Hid (xs.length = 24) := hl24
      clear hl24
      go_wp2_with fail
      go_loopw [3, 36] (fun v i wr => ∃ (k : Nat) (xs : List Int), k ≤ n ∧ i = .int .i64 k ∧ (∀ x ∈ xs, U32 x) ∧ xs.length = 24 + 3 * k ∧ wr.ownsRow w.heap.size 29 1 v xs.length (xs.map (Value.int .u32)) ∧ Below w.heap.size w wr) (fun _ i _ => n - (intOf i).toNat)
      case atStart => exact ⟨0, xs, by omega, rfl, hx, by rw [Hl24.out], hown, hb⟩
      case round =>
        clear hx hl hown hb Hl24
        obtain ⟨k, xs, hk, rfl, hx, hl, hown, hb⟩ := hrel
        by_cases hlt : k < n
        · obtain ⟨hok, hcs⟩ := hs
          obtain ⟨b, off, rfl, hbs, hcs⟩ := hcs (by omega)
          have hq := hcs k hlt
          obtain ⟨ok1, ok2, ok3, ok4⟩ := hok k hlt
          have q0 := (hb.cell (p := ⟨b, off + k * 4, none⟩) hbs).trans hq.1
          have q1 := (hb.cell (p := ⟨b, off + k * 4 + 1, none⟩) hbs).trans hq.2.1
          have q2 := (hb.cell (p := ⟨b, off + k * 4 + 2, none⟩) hbs).trans hq.2.2.1
          have q3 := (hb.cell (p := ⟨b, off + k * 4 + 3, none⟩) hbs).trans hq.2.2.2
          clear hq hcs hok
          go_wp2_with (at_builtin; refine wpList_append_own _ rfl (.tmp 40) (.tmp 47) 64 rfl w.heap.size 29 i0 (.int .u32 0) 1 4 Tryd.underlying64 hi hz0 hz1 hz2 rfl (by decide) _ _ _ rfl ((hown.alloc _).alloc _) ⟨wr.heap.size + 1, 0, none⟩ 3 3 [.int .u32 (s k).a, .int .u32 (s k).b, .int .u32 (s k).c] rfl rfl ?c1 ?c2 ?c3 ?c4 ?c5 ?_)
          case c1 => exact cells_new _ _ _ _ (by simp)
          case c2 => intro u hu; simp at hu; rcases hu with rfl | rfl | rfl <;> rfl
          case c3 => unfold maxLen; omega
          case c4 => omega
          case c5 => have := hb.size; simp; omega
          intro v' w1 hown' hgrow _
          have R : Hid (∃ ys : List Int, (∀ x ∈ ys, U32 x) ∧ ys.length = 24 + 3 * (k + 1) ∧ w1.ownsRow w.heap.size 29 1 v' ys.length (ys.map (Value.int .u32)) ∧ Below w.heap.size w w1) := by
            refine ⟨xs ++ [(s k).a, (s k).b, (s k).c], ?_, by simp; omega, by simpa [hl] using hown', ?_⟩
            · intro x hxm
              rcases List.mem_append.1 hxm with h | h
              · exact hx x h
              · simp at h
                rcases h with rfl | rfl | rfl
                · exact ok2
                · exact ok3
                · exact ok4
            · refine ((hb.alloc hb.size _).alloc (by have := hb.size; simp; omega) _).grown hgrow (by have := hb.size; simp; omega) (fun j hj => (hown.lt j hj).1)
          clear hown' hgrow hown hb hx hl q0 q1 q2 q3 ok1 ok2 ok3 ok4
          go_wp2
          go_roundw
          case rel =>
            obtain ⟨ys, a1, a2, a3, a4⟩ := R
            exact ⟨k + 1, ys, by omega, by go_num, a1, a2, a3, a4⟩
          case measure => simp [intOf]; omega
        · obtain rfl : k = n := by omega
          have hpos : 0 < xs.length := by omega
          have hcell : ∀ g, u3.ownBlock = some g → ∀ j, j < xs.length → wr.cell? ⟨g, j, none⟩ = some (.int .u32 (xs.getD j 0)) := by
            intro g hg j hj
            have := hown.cells hg j (.int .u32 (xs.getD j 0)) (by simp [List.getElem?_eq_getElem hj, List.getD])
            have hadd : (⟨g, 0, none⟩ : Addr).add j = ⟨g, j, none⟩ := by unfold Addr.add; split <;> simp_all
            rwa [hadd] at this
          rcases hown.2 with ⟨_, h0⟩ | ⟨g, cap, cur, rfl, hg1, hg2, hg3, hg4, hg5, hg6⟩
          · omega
          have hcell := hcell g rfl
          have hgs : g < wr.heap.size := (Array.getElem?_eq_some_iff.1 hg2).1
          have hU : ∀ j, U32 (xs.getD j 0) := fun j => by
            by_cases hj : j < xs.length
            · exact hx _ (by simp [List.getD, List.getElem?_eq_getElem hj])
            · simp [List.getD, List.getElem?_eq_none (Nat.le_of_not_lt hj), U32]
          have hWr : Wins wr := hW.below hb h2
          have hMr : Maps wr := hM.below hb h2
          have hwr2 : 2 ≤ wr.heap.size := by have := hb.size; omega
          have hll : xs.length ≤ 300000 := by omega
          clear hx hg1 hg2 hg3 hg4 hg5 hg6 hown hl
          generalize wr = w3 at *
          go_wp2_with fail
          go_loopw [52] (fun i w' => ∃ (j : Nat), j ≤ xs.length ∧ i = .int .i64 j ∧ Below w3.heap.size w3 w') (fun i _ => xs.length - (intOf i).toNat)
          case atStart => exact ⟨0, by omega, rfl, Below.refl _ _⟩
          case round =>
            obtain ⟨j, hj, rfl, hbj⟩ := hrel
            by_cases hlt : j < xs.length
            · have q := (hbj.cell (p := ⟨g, j, none⟩) hgs).trans (hcell j hlt)
              obtain ⟨x0, x1⟩ := hU j
              have HS : Hid (sel (xs.getD j 0) = (2 ^ dec (xs.getD j 0) : Nat)) := sel_dec _ x0 x1
              have hd : dec (xs.getD j 0) < 7 := by have := dec_le (xs.getD j 0); omega
              have HWj : Hid (Wins wr) := hWr.below hbj hwr2
              have HMj : Hid (Maps wr) := hMr.below hbj hwr2
              have hsh : ((2 : Int) ^ dec (xs.getD j 0) / 128) = 0 := pow_shr hd
              have hsl : ((2 : Int) ^ dec (xs.getD j 0) % 256) = 2 ^ dec (xs.getD j 0) := pow_shl hd
              generalize xs.getD j 0 = x at *
              go_wp2_with fail
              refine (select_any x _ HWj).mono ?_
              rintro e w4 ⟨rfl, hb4⟩
              rw [HS.out]
              go_wp2_with fail
              refine (ones8_any _ hd _).mono ?_
              rintro e w5 ⟨rfl, hw5⟩
              obtain rfl := hw5.symm
              go_wp2_with fail
              refine (mdecode_any x _ (HMj.below hb4 (by have := hbj.size; omega))).mono ?_
              rintro e w6 ⟨rfl, hb6⟩
              go_wp2_with fail
              refine (xdecode_any x x0 x1 _ ((Wins.below HWj hb4 (by have := hbj.size; omega)).below hb6 (by have := hbj.size; have := hb4.size; omega))).mono ?_
              rintro e w7 ⟨rfl, hb7⟩
              go_wp2_with fail
              refine (mdecode_any x _ (((Maps.below HMj hb4 (by have := hbj.size; omega)).below hb6 (by have := hbj.size; have := hb4.size; omega)).below hb7 (by have := hbj.size; have := hb4.size; have := hb6.size; omega))).mono ?_
              rintro e w8 ⟨rfl, hb8⟩
              go_wp2_with fail
              have hbz : Below w3.heap.size w3 w8 := (((hbj.trans (hb4.mono hbj.size)).trans (hb6.mono (by have := hbj.size; have := hb4.size; omega))).trans (hb7.mono (by have := hbj.size; have := hb4.size; have := hb6.size; omega))).trans (hb8.mono (by have := hbj.size; have := hb4.size; have := hb6.size; have := hb7.size; omega))
              exact ⟨⟨j + 1, by omega, by go_num, hbz⟩, by simp [intOf]; omega⟩
            · obtain rfl : j = xs.length := by omega
              have HWr : Hid (Wins wr) := hWr.below hbj hwr2
              obtain ⟨c0, d0⟩ := (hMr.below hbj hwr2) 0 (by decide)
              obtain ⟨c1, d1⟩ := (hMr.below hbj hwr2) 1 (by decide)
              obtain ⟨c2, d2⟩ := (hMr.below hbj hwr2) 2 (by decide)
              obtain ⟨c3, d3⟩ := (hMr.below hbj hwr2) 3 (by decide)
              obtain ⟨c4, d4⟩ := (hMr.below hbj hwr2) 4 (by decide)
              obtain ⟨c5, d5⟩ := (hMr.below hbj hwr2) 5 (by decide)
              simp only [Nat.reduceMul, Nat.reduceAdd] at c0 c1 c2 c3 c4 c5 d0 d1 d2 d3 d4 d5
              have hwz : 2 ≤ wr.heap.size := by have := hbj.size; omega
              have HB : Hid (Below w.heap.size w wr) := hb.trans (hbj.mono hb.size)
              clear hbj hcell hgs hU hWr hMr
              generalize wr = w9 at *
              go_wp2_with fail
              clear c0 c1 c2 c3 c4 c5 d0 d1 d2 d3 d4 d5
              go_loopw [82] (fun i w' => ∃ (j : Nat), j ≤ 6 ∧ i = .int .i64 j ∧ Below w9.heap.size w9 w') (fun i _ => 6 - (intOf i).toNat)
              case atStart => exact ⟨0, by omega, rfl, Below.refl _ _⟩
              case round =>
                obtain ⟨j, hj, rfl, hbj⟩ := hrel
                by_cases hlt : j < 6
                · have hix := index_map j hlt
                  have hf : (U32 (mfirst j) ∧ U32 (mlast j)) ∧ dec (mfirst j) = j ∧ dec (mlast j) = j := by
                    have : j = 0 ∨ j = 1 ∨ j = 2 ∨ j = 3 ∨ j = 4 ∨ j = 5 := by omega
                    rcases this with rfl | rfl | rfl | rfl | rfl | rfl <;> simp [U32, mfirst, mlast, dec]
                  obtain ⟨⟨⟨f0, f1⟩, ⟨l0, l1⟩⟩, hd1, hd2⟩ := hf
                  have Hd1 : Hid (dec (mfirst j) = j) := hd1
                  have Hd2 : Hid (dec (mlast j) = j) := hd2
                  have HWj : Hid (Wins wr) := Wins.below HWr hbj hwz
                  clear hd1 hd2
                  go_wp2_with fail
                  refine (xdecode_any _ f0 f1 _ (Wins.below HWj ((Below.refl _ _).alloc (Nat.le_refl _) _) (by have := hbj.size; omega))).mono ?_
                  rintro e w10 ⟨rfl, hb10⟩
                  rw [Hd1.out]
                  have hq : w10.cell? ⟨wr.heap.size, 1, none⟩ = some (.int .u32 (mlast j)) := (hb10.cell (p := ⟨wr.heap.size, 1, none⟩) (by simp)).trans (by simp)
                  go_wp2_with fail
                  refine (xdecode_any _ l0 l1 _ ((Wins.below HWj ((Below.refl _ _).alloc (Nat.le_refl _) _) (by have := hbj.size; omega)).below hb10 (by have := hbj.size; simp; omega))).mono ?_
                  rintro e w11 ⟨rfl, hb11⟩
                  rw [Hd2.out]
                  go_wp2_with fail
                  have hz10 : wr.heap.size + 1 ≤ w10.heap.size := by have := hb10.size; simpa using this
                  exact ⟨⟨j + 1, by omega, by go_num, ((hbj.alloc hbj.size _).trans (hb10.mono (by have := hbj.size; simp; omega))).trans (hb11.mono (by have := hbj.size; omega))⟩, by simp [intOf]; omega⟩
                · obtain rfl : j = 6 := by omega
                  go_wp2_with fail
                  go_ret
                  exact ⟨rfl, HB.out.trans (hbj.mono HB.out.size)⟩
end Go.Proofs.Qxb6500750aDoor
