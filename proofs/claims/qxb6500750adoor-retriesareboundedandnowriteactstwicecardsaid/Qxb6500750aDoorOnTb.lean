import Derived.Test.Qxb6500750aDoorOnTa
namespace Go.Proofs.Qxb6500750aDoor
open Go.RowKit
theorem Later.tk {ab xb : Nat} {pbs : Nat → Nat} {B0 B : BK} {acc : Nat → List Req} {p : Nat → PS} {W0 w1 : World} (h : Later ab xb pbs B0 acc p W0 B (put w1 ab (encA B.a) 82)) (hl : ab < w1.heap.size) (m : Nat) (c : Obj) :
    Later ab xb pbs B0 acc p W0 (tkM m B) ((put w1 ab (encA { B.a with tk := upd B.a.tk m false }) 82).alloc c) := by
  have hbk := h.base.bk
  have hko : ∀ k, k < w1.heap.size → k ≠ ab → ((put w1 ab (encA { B.a with tk := upd B.a.tk m false }) 82).alloc c).heap[k]? = (put w1 ab (encA B.a) 82).heap[k]? := fun k hk hne => by
    rw [Below.heap_alloc _ _ _ (by rw [put_size]; exact hk), put_heap_ne _ _ _ _ _ hne, put_heap_ne _ _ _ _ _ hne]
  have hsz : ∀ k, k < (put w1 ab (encA B.a) 82).heap.size → k < w1.heap.size := fun k hk => by rw [put_size] at hk; exact hk
  refine h.on ⟨rfl, rfl, rfl, by simp [put_size], fun k hk h1 _ _ => hko k (hsz k hk) h1⟩ ⟨?_, ?_, fun b' f hf => ?_⟩ rfl rfl rfl (fun _ _ hn => hn)
  · exact (Blk.put_same hl).alloc _
  · exact hbk.map.same (hko _ (hsz _ hbk.map.lt) (fun e => hbk.map.ne_blk hbk.blk e.symm))
  · have hB := hbk.fl b' f hf
    exact (hko b' (hsz _ hB.lt) (hB.ne_of_T hbk.blk (by decide))).trans hB
theorem retM_no {ρ : RepD} {m : Nat} {B : BK} (h : (ρ.r m).va = false) : retM ρ m B = tkM m B := by
  unfold retM; rw [if_neg (by rw [h]; decide)]; rfl
theorem ret_call2 {ab xb : Nat} {pbs : Nat → Nat} {B0 B : BK} {acc : Nat → List Req} {p : Nat → PS} {W0 w : World} {ρ : RepD} {m : Nat} (hm : m < 3) (hok : RetOK ρ m B) (hv : (ρ.r m).va = true) (h : Later ab xb pbs B0 acc p W0 (tkM m B) w) :
    Calls Tryd.prog 60 #[.pointer (some ⟨ab, 0, none⟩), .int .i64 (m : Nat), .agg #[.bool true, .int .u32 (ρ.r m).sq, .int .u8 (ρ.r m).st, .int .u32 (ρ.r m).da, .int .u8 (ρ.r m).re, .int .u8 (ρ.r m).ca]] w fun e w' => e = .returned (.tuple #[]) ∧ Later ab xb pbs B0 acc p W0 (retM ρ m B) w' := by
  have := ret_call hm hok hv h
  unfold retRow at this
  rw [hv] at this
  exact this
end Go.Proofs.Qxb6500750aDoor
