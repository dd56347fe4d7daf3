import Derived.Test.Qxb6500749aHp
import Derived.ArgAppend
namespace Go.Proofs.Qxb6500749a
open Go.RowKit

/-! ### Slices of the call's own, at whatever place of their row -/
/-- The slice value v, of n elements (es cells each, of type T), shows the cells xs; what lies behind them up to its capacity is its own too. -/
def Sl (w : World) (v : Value) (T : TypeId) (es n : Nat) (xs : List Value) : Prop :=
  xs.length = n * es ∧
  ((v = .slice none 0 0 ∧ n = 0) ∨
   ∃ b off cap cs, v = .slice (some ⟨b, off, none⟩) n cap ∧ Blk w b cs T ∧ n ≤ cap ∧ cap ≤ maxLen ∧ off + cap * es ≤ cs.size ∧ (cs.toList.drop off).take (n * es) = xs)

theorem addr_add (b o i : Nat) : (⟨b, o, none⟩ : Addr).add i = ⟨b, o + i, none⟩ := by
  unfold Addr.add
  split <;> simp_all

section
variable {w w' : World} {v : Value} {T : TypeId} {es n : Nat} {xs : List Value}
theorem Sl.nil (w : World) (T : TypeId) (es : Nat) : Sl w (.slice none 0 0) T es 0 [] := ⟨by simp, .inl ⟨rfl, rfl⟩⟩
theorem Sl.lt (h : Sl w v T es n xs) : ∀ k, v.ownBlock = some k → k < w.heap.size := by
  intro k hk
  rcases h.2 with ⟨rfl, _⟩ | ⟨b, off, cap, cs, rfl, hb, _⟩
  · simp [Value.ownBlock] at hk
  · simp [Value.ownBlock] at hk
    subst hk
    exact hb.lt
theorem Sl.same (h : Sl w v T es n xs) (hs : ∀ k, v.ownBlock = some k → w'.heap[k]? = w.heap[k]?) : Sl w' v T es n xs := by
  refine ⟨h.1, ?_⟩
  rcases h.2 with hn | ⟨b, off, cap, cs, rfl, hb, rest⟩
  · exact .inl hn
  · exact .inr ⟨b, off, cap, cs, rfl, (hs b rfl).trans hb, rest⟩
/-- An element's cells. -/
theorem Sl.cell (h : Sl w v T es n xs) {b off len cap : Nat} (hv : v = .slice (some ⟨b, off, none⟩) len cap) (j : Nat) (hj : j < xs.length) : w.cell? ⟨b, off + j, none⟩ = xs[j]? := by
  rcases h.2 with ⟨rfl, _⟩ | ⟨b', off', cap', cs, rfl, hb, _, _, _, ht⟩
  · cases hv
  · cases hv
    rw [hb.cell, ← ht, List.getElem?_take, List.getElem?_drop]
    have : j < n * es := by rw [← h.1]; exact hj
    simp [this]
theorem Sl.frozen (h : Sl w v T es n xs) {b off len cap : Nat} (hv : v = .slice (some ⟨b, off, none⟩) len cap) (o : Nat) : w.frozen? ⟨b, o, none⟩ = false := by
  rcases h.2 with ⟨rfl, _⟩ | ⟨b', off', cap', cs, rfl, hb, _⟩
  · cases hv
  · cases hv; exact hb.frozen o
/-- The value's form. -/
theorem Sl.form (h : Sl w v T es n xs) (hn : 0 < n) : ∃ b off cap, v = .slice (some ⟨b, off, none⟩) n cap ∧ n ≤ cap ∧ b < w.heap.size := by
  rcases h.2 with ⟨_, h0⟩ | ⟨b, off, cap, cs, rfl, hb, hc, _⟩
  · omega
  · exact ⟨b, off, cap, rfl, hc, hb.lt⟩
theorem Sl.form' (h : Sl w v T es n xs) : ∃ a cap, v = .slice a n cap := by
  rcases h.2 with ⟨rfl, rfl⟩ | ⟨b, off, cap, cs, rfl, _⟩
  · exact ⟨_, _, rfl⟩
  · exact ⟨_, _, rfl⟩
/-- 'v[1:]'. -/
theorem Sl.tail (h : Sl w v T es (n + 1) xs) {b off cap : Nat} (hv : v = .slice (some ⟨b, off, none⟩) (n + 1) cap) :
    Sl w (.slice (some (if cap = 1 then (⟨b, off, none⟩ : Addr) else ⟨b, off + es, none⟩)) n (cap - 1)) T es n (xs.drop es) := by
  rcases h.2 with ⟨rfl, _⟩ | ⟨b', off', cap', cs, rfl, hb, h1, h2, h3, h4⟩
  · cases hv
  · cases hv
    have hlen : (xs.drop es).length = n * es := by
      rw [List.length_drop, h.1, Nat.add_mul, Nat.one_mul]; omega
    refine ⟨hlen, .inr ?_⟩
    have hxs : ((cs.toList.drop (off + es)).take (n * es)) = xs.drop es := by
      rw [← h4, List.drop_take, List.drop_drop, Nat.add_mul, Nat.one_mul]
      congr 1
      omega
    by_cases hc : cap = 1
    · subst hc
      have hn : n = 0 := by omega
      subst hn
      refine ⟨b, off, 0, cs, by simp, hb, by omega, by omega, ?_, ?_⟩
      · have : 1 * es = es := Nat.one_mul es
        omega
      · have : xs.drop es = [] := by apply List.eq_nil_of_length_eq_zero; simpa using hlen
        simp [this]
    · refine ⟨b, off + es, cap - 1, cs, by simp [hc], hb, by omega, by omega, ?_, hxs⟩
      obtain ⟨c', rfl⟩ : ∃ c', cap = c' + 1 := ⟨cap - 1, by omega⟩
      rw [Nat.add_mul, Nat.one_mul] at h3
      simp only [Nat.add_sub_cancel]
      omega
end

section
variable {P : Program} (w : World)
theorem run_append_room_off (t ty e : TypeId) (i : TypeInfo) (ht : P.underlying t = some (.slice e)) (hi : P.info? e = some i)
    (g off sLen sCap : Nat) (cur : Array Value) (hg : w.heap[g]? = some (.cells cur e (0, 0)))
    (a : Addr) (m c : Nat) (news : List Value) (hl : news.length = m * i.size) (hnews : ∀ j u, news[j]? = some u → w.cell? (a.add j) = some u) (h1 : ∀ u ∈ news, u.oneCell' = true)
    (hroom : sLen + m ≤ sCap) (hfit : off + sLen * i.size + news.length ≤ cur.size) :
    (Builtin.append_ #[t, t] ty #[.slice (some ⟨g, off, none⟩) sLen sCap, .slice (some a) m c]).run P w =
      .ok (.slice (some ⟨g, off, none⟩) (sLen + m) sCap) (w.setRow g (cur.toList.take (off + sLen * i.size) ++ news ++ cur.toList.drop (off + sLen * i.size + news.length)).toArray) := by
  have hf := run_firstCells_some (P := P) w i.size m a m c news hl hnews
  have hst := run_storeCells_at P g (off + sLen * i.size) e news 0 cur w hg (by simpa using hfit) h1
  simp only [Nat.add_zero] at hst
  simp [Builtin.append_, run_underlying ht, sizeOf, typeInfo, hi, Builtin.lenOf, hroom, hf, addr_add, hst]

theorem Sl.of_ownsRow {w : World} {base : Nat} {e : TypeId} {size : Nat} {v : Value} {n : Nat} {xs : List Value} (h : w.ownsRow base e size v n xs) : Sl w v e size n xs := by
  refine ⟨h.1, ?_⟩
  rcases h.2 with hn | ⟨g, cap, cur, rfl, _, hg, h1, h2, h3, h4⟩
  · exact .inl hn
  · exact .inr ⟨g, 0, cap, cur, rfl, hg, h1, h2, by omega, by simpa using h4⟩

/-- append onto a slice of the call's own: some value, some world: the slice's own row alone has turned, new blocks may have come. -/
theorem run_append_sl (t ty e : TypeId) (i : TypeInfo) (z : Value) (size bytes : Nat) (ht : P.underlying t = some (.slice e)) (hi : P.info? e = some i) (hz : i.zero = some z)
    (hsize : i.size = size) (hby : i.bytes = bytes) (hzs : z.cells.size = size) (hsz : 0 < size)
    (v : Value) (n : Nat) (xs : List Value) (hown : Sl w v e size n xs)
    (a : Addr) (m c : Nat) (news : List Value) (hl : news.length = m * size) (hnews : ∀ j u, news[j]? = some u → w.cell? (a.add j) = some u) (h1 : ∀ u ∈ news, u.oneCell' = true)
    (h63 : n + m ≤ maxLen) (hbytes : (n + m) * bytes ≤ 140737488355328) :
    ∃ v' w', (Builtin.append_ #[t, t] ty #[v, .slice (some a) m c]).run P w = .ok v' w' ∧ Sl w' v' e size (n + m) (xs ++ news) ∧ w.grownBy w' v.ownBlock ∧ (∀ k, v'.ownBlock = some k → v.ownBlock = some k ∨ w.heap.size ≤ k) := by
  rcases hown.2 with ⟨rfl, rfl⟩ | ⟨b, off, cap, cs, rfl, hb, hnc, hcm, hfit, htake⟩
  · obtain ⟨v', w', r1, r2, r3, _⟩ := run_append_own (P := P) w w.heap.size t ty e i z size bytes ht hi hz hsize hby hzs hsz (.slice none 0 0) 0 [] (World.ownsRow_nil _ _ _ _) a m c news hl hnews h1 (by simpa using h63) (by simpa using hbytes) (Nat.le_refl _)
    have hx : xs = [] := List.eq_nil_of_length_eq_zero (by simpa using hown.1)
    subst hx
    exact ⟨v', w', r1, by simpa using Sl.of_ownsRow r2, r3, fun k hk => .inr (r2.lt k hk).1⟩
  · by_cases hroom : n + m ≤ cap
    · subst hsize
      have hle : (n + m) * i.size ≤ cap * i.size := Nat.mul_le_mul_right _ hroom
      rw [Nat.add_mul] at hle
      have hr := run_append_room_off (P := P) w t ty e i ht hi b off n cap cs hb a m c news hl hnews h1 hroom (by omega)
      refine ⟨_, _, hr, ⟨by rw [List.length_append, hown.1, hl, Nat.add_mul], .inr ⟨b, off, cap, _, rfl, setRow_heap w b cs _ e _ hb, hroom, hcm, ?_, ?_⟩⟩, ⟨rfl, rfl, rfl, by simp, fun k _ hk => setRow_other w b k _ (fun e => hk (by simp [Value.ownBlock, e]))⟩, fun k hk => .inl (by simpa [Value.ownBlock] using hk)⟩
      · simp only [List.size_toArray, List.length_append, List.length_take, List.length_drop, Array.length_toList]
        omega
      · have hcs : off + n * i.size ≤ cs.toList.length := by simp; omega
        have e1 : (cs.toList.take (off + n * i.size)).length = off + n * i.size := by simp; omega
        simp only []
        rw [List.append_assoc, List.drop_append_of_le_length (by rw [e1]; omega), List.drop_take, show off + n * i.size - off = n * i.size from by omega, htake]
        have e2 : (n + m) * i.size = xs.length + news.length := by rw [hown.1, hl, Nat.add_mul]
        rw [e2, ← List.append_assoc, show xs.length + news.length = (xs ++ news).length from by simp]
        exact List.take_left
    · obtain ⟨v', w', r1, r2, r3⟩ := run_append_arg_grows (P := P) w t ty e i z size bytes ht hi hz hsize hby hzs hsz ⟨b, off, none⟩ n cap xs hown.1 (fun j u hj => by
        have hj' : j < xs.length := (List.getElem?_eq_some_iff.1 hj).1
        rw [addr_add, hown.cell rfl j hj', hj]) a m c news hl hnews (by omega) h63 hbytes
      exact ⟨v', w', r1, Sl.of_ownsRow r2, ⟨r3.os, r3.tape, r3.output, r3.size, fun k hk _ => r3.block k hk (by simp)⟩, fun k hk => .inr (r2.lt k hk).1⟩

theorem wp_append_sl {o : Oper} {a : Act} {K : Act → World → Prop} {Q : Exit → Act → World → Prop} (s x : Operand) (t : TypeId)
    (ho : o.op = .call { callee := .builtin .append, args := #[s, x], argTypes := #[t, t] })
    (e : TypeId) (i : TypeInfo) (z : Value) (size bytes : Nat) (ht : P.underlying t = some (.slice e)) (hi : P.info? e = some i) (hz : i.zero = some z)
    (hsize : i.size = size) (hby : i.bytes = bytes) (hzs : z.cells.size = size) (hsz : 0 < size)
    (v : Value) (n : Nat) (xs : List Value) (hs : a.eval s = v) (hown : Sl w v e size n xs)
    (ad : Addr) (m c : Nat) (news : List Value) (hx : a.eval x = .slice (some ad) m c) (hl : news.length = m * size) (hnews : ∀ j u, news[j]? = some u → w.cell? (ad.add j) = some u) (h1 : ∀ u ∈ news, u.oneCell' = true)
    (h63 : n + m ≤ maxLen) (hbytes : (n + m) * bytes ≤ 140737488355328)
    (h : ∀ v' w', Sl w' v' e size (n + m) (xs ++ news) → w.grownBy w' v.ownBlock → (∀ k, v'.ownBlock = some k → v.ownBlock = some k ∨ w.heap.size ≤ k) → K (a.put o.dst v') w') : o.wp P a w K Q := by
  obtain ⟨v', w', hr, h2, h3, h4⟩ := run_append_sl (P := P) w t o.type e i z size bytes ht hi hz hsize hby hzs hsz v n xs hown ad m c news hl hnews h1 h63 hbytes
  unfold Oper.wp execOp
  simp only [ho, resolve, invoke, builtin, Sem.run_bind, Sem.run_pure, Result.andThen_ok, List.map_toArray, List.map_cons, List.map_nil, hs, hx, hr]
  exact h v' w' h2 h3 h4
/-- The same, as a region that draws its order asks for it. -/
theorem step_append_sl {ops : Array Oper} {E : Prop} {o : Oper} {a : Act} {K : Act → World → Prop} {Q : Exit → Act → World → Prop} (hg : o.guard = none) (s x : Operand) (t : TypeId)
    (ho : o.op = .call { callee := .builtin .append, args := #[s, x], argTypes := #[t, t] })
    (e : TypeId) (i : TypeInfo) (z : Value) (size bytes : Nat) (ht : P.underlying t = some (.slice e)) (hi : P.info? e = some i) (hz : i.zero = some z)
    (hsize : i.size = size) (hby : i.bytes = bytes) (hzs : z.cells.size = size) (hsz : 0 < size)
    (v : Value) (n : Nat) (xs : List Value) (hs : a.eval s = v) (hown : Sl w v e size n xs)
    (ad : Addr) (m c : Nat) (news : List Value) (hx : a.eval x = .slice (some ad) m c) (hl : news.length = m * size) (hnews : ∀ j u, news[j]? = some u → w.cell? (ad.add j) = some u) (h1 : ∀ u ∈ news, u.oneCell' = true)
    (h63 : n + m ≤ maxLen) (hbytes : (n + m) * bytes ≤ 140737488355328)
    (h : ∀ v' w', Sl w' v' e size (n + m) (xs ++ news) → w.grownBy w' v.ownBlock → (∀ k, v'.ownBlock = some k → v.ownBlock = some k ∨ w.heap.size ≤ k) → K (a.put o.dst v') w') :
    if Region.wanted o (yielded ops a.tmps) = true then Oper.wp P o a w K Q else E := by
  have hw : Region.wanted o (yielded ops a.tmps) = true := by simp [Region.wanted, hg]
  rw [if_pos hw]
  exact wp_append_sl w s x t ho e i z size bytes ht hi hz hsize hby hzs hsz v n xs hs hown ad m c news hx hl hnews h1 h63 hbytes h
theorem wpList_append_sl {ops : Array Oper} {rest : List Oper} {o : Oper} {a : Act} {Q : Exit → Act → World → Prop} (hgd : o.guard = none) (s x : Operand) (t : TypeId)
    (ho : o.op = .call { callee := .builtin .append, args := #[s, x], argTypes := #[t, t] })
    (e : TypeId) (i : TypeInfo) (z : Value) (size bytes : Nat) (ht : P.underlying t = some (.slice e)) (hi : P.info? e = some i) (hz : i.zero = some z)
    (hsize : i.size = size) (hby : i.bytes = bytes) (hzs : z.cells.size = size) (hsz : 0 < size)
    (v : Value) (n : Nat) (xs : List Value) (hs : a.eval s = v) (hown : Sl w v e size n xs)
    (ad : Addr) (m c : Nat) (news : List Value) (hx : a.eval x = .slice (some ad) m c) (hl : news.length = m * size) (hnews : ∀ j u, news[j]? = some u → w.cell? (ad.add j) = some u) (h1 : ∀ u ∈ news, u.oneCell' = true)
    (h63 : n + m ≤ maxLen) (hbytes : (n + m) * bytes ≤ 140737488355328)
    (h : ∀ v' w', Sl w' v' e size (n + m) (xs ++ news) → w.grownBy w' v.ownBlock → (∀ k, v'.ownBlock = some k → v.ownBlock = some k ∨ w.heap.size ≤ k) → wpList P ops Q rest (a.put o.dst v') w') : wpList P ops Q (o :: rest) a w :=
  wpList_plain hgd fun _ hK => wp_append_sl w s x t ho e i z size bytes ht hi hz hsize hby hzs hsz v n xs hs hown ad m c news hx hl hnews h1 h63 hbytes fun v' w' h2 h3 h4 => hK _ _ (h v' w' h2 h3 h4)
end

/-! ### A map from words to words -/
def keyIs (v : Value) (a : Int) : Bool := match v with | .int .u32 x => x == a | _ => false
def valOf (v : Value) : Int := match v with | .int _ d => d | _ => 0
/-- What the entries say of the key a: the first entry that bears it; else 0. -/
def mget : List MapEntry → Int → Int
  | [], _ => 0
  | e :: es, a => if keyIs e.key a then valOf e.val else mget es a
def Words (es : List MapEntry) : Prop := ∀ e ∈ es, ∃ a d, e.key = .int .u32 a ∧ e.val = .int .u32 d
/-- Each key stands once, and each entry bears a stamp of its own. -/
structure Uq (es : List MapEntry) (clock : Nat) : Prop where
  key : ∀ (i j : Nat) (x y : MapEntry) (a : Int), es[i]? = some x → es[j]? = some y → keyIs x.key a = true → keyIs y.key a = true → i = j
  old : ∀ x ∈ es, x.born < clock
  nd : (es.map (·.born)).Nodup
theorem Uq.nil (c : Nat) : Uq [] c := ⟨fun i j x y a h => by simp at h, fun x hx => by simp at hx, by simp⟩
theorem Uq.push {es : List MapEntry} {c : Nat} (h : Uq es c) (x : MapEntry) (hb : x.born = c) {a : Int} (hx : keyIs x.key a = true) (hn : ∀ e ∈ es, keyIs e.key a = false) : Uq (es ++ [x]) (c + 1) := by
  have hk : ∀ a', keyIs x.key a' = true → a' = a := fun a' q => by
    unfold keyIs at hx q
    split at hx
    · rename_i v hv
      rw [hv] at q
      simp at hx q
      omega
    · cases hx
  refine ⟨fun i j y z a' hi hj h1 h2 => ?_, fun y hy => ?_, ?_⟩
  · rw [List.getElem?_append] at hi hj
    split at hi <;> split at hj
    · exact h.key i j y z a' hi hj h1 h2
    · rename_i q1 q2
      have hz : z = x := by
        rw [List.getElem?_singleton] at hj
        split at hj <;> simp_all
      subst hz
      have := hk a' h2
      subst this
      have := hn y (List.mem_of_getElem? hi)
      rw [h1] at this
      cases this
    · rename_i q1 q2
      have hz : y = x := by
        rw [List.getElem?_singleton] at hi
        split at hi <;> simp_all
      subst hz
      have := hk a' h1
      subst this
      have := hn z (List.mem_of_getElem? hj)
      rw [h2] at this
      cases this
    · rename_i q1 q2
      rw [List.getElem?_singleton] at hi hj
      split at hi
      · split at hj
        · omega
        · cases hj
      · cases hi
  · rcases List.mem_append.1 hy with q | q
    · have := h.old y q; omega
    · simp at q; subst q; omega
  · rw [List.map_append, List.nodup_append]
    refine ⟨h.nd, by simp, fun b hb1 b' hb2 e => ?_⟩
    simp at hb2
    obtain ⟨y, hy, rfl⟩ := List.mem_map.1 hb1
    have := h.old y hy
    omega
theorem Uq.set {es : List MapEntry} {c j : Nat} (h : Uq es c) (x x' : MapEntry) (hx : es[j]? = some x) (hk : x'.key = x.key) (hb : x'.born = x.born) : Uq (es.set j x') c := by
  have hlt : j < es.length := (List.getElem?_eq_some_iff.1 hx).1
  have key : ∀ (i : Nat) (y : MapEntry), (es.set j x')[i]? = some y → ∃ z : MapEntry, es[i]? = some z ∧ z.key = y.key ∧ z.born = y.born := fun i y hy => by
    rw [List.getElem?_set] at hy
    by_cases q : j = i
    · subst q
      rw [if_pos rfl, if_pos hlt] at hy
      cases hy
      exact ⟨x, hx, hk.symm, hb.symm⟩
    · rw [if_neg q] at hy
      exact ⟨y, hy, rfl, rfl⟩
  have hmap : (es.set j x').map (·.born) = es.map (·.born) := by
    apply List.ext_getElem?
    intro i
    rw [List.getElem?_map, List.getElem?_map, List.getElem?_set]
    by_cases q : j = i
    · subst q
      rw [if_pos rfl, if_pos hlt, hx]
      simp [hb]
    · rw [if_neg q]
  refine ⟨fun i i' y z a' hi hj h1 h2 => ?_, fun y hy => ?_, by rw [hmap]; exact h.nd⟩
  · obtain ⟨y', g1, g2, _⟩ := key i y hi
    obtain ⟨z', g3, g4, _⟩ := key i' z hj
    exact h.key i i' y' z' a' g1 g3 (by rw [g2]; exact h1) (by rw [g4]; exact h2)
  · obtain ⟨i, hi⟩ := List.getElem?_of_mem hy
    obtain ⟨y', g1, _, g3⟩ := key i y hi
    have := h.old y' (List.mem_of_getElem? g1)
    omega
/-- Where each key stands once, an entry says what the map gives. -/
theorem mget_of_mem {es : List MapEntry} (h : ∀ (i j : Nat) (x y : MapEntry) (a : Int), es[i]? = some x → es[j]? = some y → keyIs x.key a = true → keyIs y.key a = true → i = j) {e : MapEntry} (he : e ∈ es) {a : Int} (ha : keyIs e.key a = true) : mget es a = valOf e.val := by
  induction es with
  | nil => simp at he
  | cons x es ih =>
    unfold mget
    by_cases q : keyIs x.key a = true
    · rw [if_pos q]
      rcases List.mem_cons.1 he with rfl | he'
      · rfl
      · obtain ⟨i, hi⟩ := List.getElem?_of_mem he'
        have := h 0 (i + 1) x e a rfl (by simpa using hi) q ha
        omega
    · rw [if_neg q]
      rcases List.mem_cons.1 he with rfl | he'
      · exact absurd ha q
      · exact ih (fun i j y z a' hi hj h1 h2 => by
          have := h (i + 1) (j + 1) y z a' (by simpa using hi) (by simpa using hj) h1 h2
          omega) he'
/-- Block b holds a map from words to words that gives f. -/
def MapB (w : World) (b : Nat) (f : Int → Int) : Prop := ∃ es clock, w.heap[b]? = some (.map es clock) ∧ Words es.toList ∧ Uq es.toList clock ∧ ∀ a, mget es.toList a = f a

theorem MapB.lt {w : World} {b : Nat} {f : Int → Int} (h : MapB w b f) : b < w.heap.size := by
  obtain ⟨es, c, hb, _⟩ := h; exact (Array.getElem?_eq_some_iff.1 hb).1
theorem MapB.same {w w' : World} {b : Nat} {f : Int → Int} (h : MapB w b f) (hs : w'.heap[b]? = w.heap[b]?) : MapB w' b f := by
  obtain ⟨es, c, hb, h2⟩ := h; exact ⟨es, c, hs.trans hb, h2⟩

theorem findNow_words (q : IntKind) (a : Int) : ∀ (es : List MapEntry) (i : Nat), Words es →
    (Instr.findNow (.int q) (.int .u32 a) es i = some none ∧ mget es a = 0 ∧ ∀ e ∈ es, keyIs e.key a = false) ∨ ∃ j d, Instr.findNow (.int q) (.int .u32 a) es i = some (some (i + j, .int .u32 d)) ∧ mget es a = d ∧ (∃ e, es[j]? = some e ∧ e.key = .int .u32 a) ∧ ∀ k e, k < j → es[k]? = some e → keyIs e.key a = false
  | [], i, _ => .inl ⟨rfl, rfl, by simp⟩
  | e :: es, i, h => by
    obtain ⟨a', d', hk, hv⟩ := h e (by simp)
    by_cases ha : a = a'
    · subst ha
      refine .inr ⟨0, d', ?_, ?_, ⟨e, rfl, hk⟩, fun k e' hk' _ => absurd hk' (by omega)⟩
      · simp [Instr.findNow, Instr.sameNow, hk, hv]
      · simp [mget, keyIs, valOf, hk, hv]
    · have hne : keyIs e.key a = false := by rw [hk]; simp [keyIs]; exact Ne.symm ha
      have hb : (a == a') = false := by simp [ha]
      have hf : Instr.findNow (.int q) (.int .u32 a) (e :: es) i = Instr.findNow (.int q) (.int .u32 a) es (i + 1) := by
        simp [Instr.findNow, Instr.sameNow, hk, hb]
      have hm : mget (e :: es) a = mget es a := by simp [mget, hne]
      rw [hf, hm]
      rcases findNow_words q a es (i + 1) (fun x hx => h x (List.mem_cons_of_mem _ hx)) with ⟨h1, h2, h3⟩ | ⟨j, d, h1, h2, h3, h4⟩
      · exact .inl ⟨h1, h2, fun x hx => by rcases List.mem_cons.1 hx with rfl | hx; exact hne; exact h3 x hx⟩
      · refine .inr ⟨j + 1, d, by rw [h1, show i + 1 + j = i + (j + 1) from by omega], h2, by simpa using h3, fun k x hk' hx => ?_⟩
        match k, hx with
        | 0, hx => simp at hx; subst hx; exact hne
        | k + 1, hx => exact h4 k x (by omega) (by simpa using hx)

theorem mget_push (es : List MapEntry) (a : Int) (x : MapEntry) (hx : keyIs x.key a = true) (h : ∀ e ∈ es, keyIs e.key a = false) (c : Int) : mget (es ++ [x]) c = if c = a then valOf x.val else mget es c := by
  induction es with
  | nil =>
    by_cases hc : c = a
    · subst hc; simp [mget, hx]
    · have : keyIs x.key c = false := by
        unfold keyIs at hx ⊢
        split at hx
        · simp at hx; subst hx; simp; exact Ne.symm hc
        · cases hx
      simp [mget, this, hc]
  | cons e es ih =>
    have ih := ih (fun y hy => h y (List.mem_cons_of_mem _ hy))
    have he := h e (by simp)
    simp only [List.cons_append, mget, ih]
    by_cases hc : c = a
    · subst hc; simp [he]
    · simp [hc]
theorem mget_set (a : Int) : ∀ (es : List MapEntry) (j : Nat) (x x' : MapEntry), es[j]? = some x → keyIs x.key a = true → x'.key = x.key → (∀ k e, k < j → es[k]? = some e → keyIs e.key a = false) → ∀ c, mget (es.set j x') c = if c = a then valOf x'.val else mget es c
  | [], j, _, _, h, _, _, _, _ => by simp at h
  | e :: es, 0, x, x', h, hx, hk, _, c => by
    simp at h; subst h
    simp only [List.set_cons_zero, mget, hk]
    by_cases hc : c = a
    · subst hc; simp [hx]
    · have : keyIs e.key c = false := by
        unfold keyIs at hx ⊢
        split at hx
        · simp at hx; subst hx; simp; exact Ne.symm hc
        · cases hx
      simp [this, hc]
  | e :: es, j + 1, x, x', h, hx, hk, hn, c => by
    have he := hn 0 e (by omega) rfl
    have ih := mget_set a es j x x' (by simpa using h) hx hk (fun k y hk' hy => hn (k + 1) y (by omega) (by simpa using hy)) c
    simp only [List.set_cons_succ, mget, ih]
    by_cases hc : c = a
    · subst hc; simp [he]
    · simp [hc]

theorem run_checkKey_int {P : Program} {k : TypeId} (hk : P.underlying k = some (.int .u32)) (b : Bool) (a : Int) (w : World) : (Instr.checkKey b 10000 k (.int .u32 a)).run P w = .ok () w := by
  show (Instr.checkKey b (9999 + 1) k (.int .u32 a)).run P w = .ok () w
  rw [Instr.checkKey]
  simp [run_underlying hk]
theorem run_findKey_int {P : Program} {k : TypeId} (hk : P.underlying k = some (.int .u32)) (a : Int) (es : List MapEntry) (r : Option (Nat × Value)) (h : Instr.findNow (.int .u32) (.int .u32 a) es 0 = some r) (w : World) :
    (Instr.findKey k (.int .u32 a) es).run P w = .ok r w := by
  unfold Instr.findKey
  simp [run_underlying hk, h]

section
variable {P : Program} {w : World} {b : Nat} {f : Int → Int} {t k e : TypeId}
theorem run_getObj_map {es : Array MapEntry} {c : Nat} (hb : w.heap[b]? = some (.map es c)) : (getObj b).run P w = .ok (.map es c) w := by
  simp [getObj, Sem.run, hb]
theorem run_lookup_words (h : MapB w b f) (ht : P.underlying t = some (.map k e)) (hk : P.underlying k = some (.int .u32)) (hz : ∀ w, (zeroValue e).run P w = .ok (.int .u32 0) w) (a : Int) :
    (Instr.lookup t (.map (some b)) (.int .u32 a) false).run P w = .ok (.int .u32 (f a)) w := by
  obtain ⟨es, c, hb, hw, hu, hf⟩ := h
  unfold Instr.lookup
  rcases findNow_words .u32 a es.toList 0 hw with ⟨h1, h2, _⟩ | ⟨j, d, h1, h2, _⟩
  · simp only [Sem.run_bind, run_underlying ht, Result.andThen_ok, run_getObj_map hb, Sem.run_pure, run_checkKey_int hk, run_findKey_int hk a _ _ h1, hz, ← hf, h2]
    simp
  · simp only [Sem.run_bind, run_underlying ht, Result.andThen_ok, run_getObj_map hb, Sem.run_pure, run_checkKey_int hk, run_findKey_int hk a _ _ h1, ← hf, h2]
    simp
/-- The world in which block b is the object o. -/
def putO (w : World) (b : Nat) (o : Obj) : World := { w with heap := w.heap.setIfInBounds b o }
theorem run_update_words (h : MapB w b f) (ht : P.underlying t = some (.map k e)) (hk : P.underlying k = some (.int .u32)) (a d : Int) :
    ∃ es c, (Instr.mapUpdate t (.map (some b)) (.int .u32 a) (.int .u32 d)).run P w = .ok () (putO w b (.map es c)) ∧ MapB (putO w b (.map es c)) b (fun x => if x = a then d else f x) := by
  have hlt := h.lt
  obtain ⟨es, c, hb, hw, hu, hf⟩ := h
  have hset : ∀ es' c', (setObj b (.map es' c')).run P w = .ok () (putO w b (.map es' c')) := fun es' c' => by
    simp [setObj, Sem.run, hb, putO]
  have hheap : ∀ es' c', (putO w b (.map es' c')).heap[b]? = some (.map es' c') := fun es' c' => by simp [putO, hlt]
  rcases findNow_words .u32 a es.toList 0 hw with ⟨h1, h2, h3⟩ | ⟨j, d0, h1, h2, ⟨x, hx1, hx2⟩, h4⟩
  · refine ⟨es.push { key := .int .u32 a, val := .int .u32 d, born := c }, c + 1, ?_, ?_⟩
    · unfold Instr.mapUpdate
      simp only [Sem.run_bind, run_underlying ht, Result.andThen_ok, run_getObj_map hb, run_checkKey_int hk, run_findKey_int hk a _ _ h1]
      exact hset _ _
    · refine ⟨_, _, hheap _ _, ?_, ?_, fun y => ?_⟩
      · intro z hz
        simp at hz
        rcases hz with hz | rfl
        · exact hw z (by simpa using hz)
        · exact ⟨a, d, rfl, rfl⟩
      · rw [Array.toList_push]
        exact hu.push _ rfl (a := a) (by simp [keyIs]) h3
      · rw [Array.toList_push, mget_push es.toList a _ (by simp [keyIs]) h3, hf]
        rfl
  · have hjl : j < es.size := by simpa using (List.getElem?_eq_some_iff.1 hx1).1
    have hxj : es[j]? = some x := by simpa using hx1
    refine ⟨es.modify j fun e => { e with key := .int .u32 a, val := .int .u32 d }, c, ?_, ?_⟩
    · unfold Instr.mapUpdate
      simp only [Sem.run_bind, run_underlying ht, Result.andThen_ok, run_getObj_map hb, run_checkKey_int hk, run_findKey_int hk a _ _ h1, Nat.zero_add, hxj, Option.map_some, Option.getD_some, hx2]
      have hks : (Instr.keyThatStays (.int .u32 a) (.int .u32 a)).run P w = .ok (.int .u32 a) w := by simp [Instr.keyThatStays, Instr.sameBits]
      simp only [hks, Result.andThen_ok]
      exact hset _ _
    · have hm : (es.modify j fun e => { e with key := .int .u32 a, val := .int .u32 d }).toList = es.toList.set j { x with key := .int .u32 a, val := .int .u32 d } := by
        apply List.ext_getElem?
        intro i
        simp only [Array.getElem?_toList, Array.getElem?_modify, List.getElem?_set]
        by_cases e : j = i
        · subst e
          have hx' : es[j] = x := (Array.getElem?_eq_some_iff.1 hxj).2
          simp [hjl, hx']
        · simp [e]
      refine ⟨_, _, hheap _ _, ?_, ?_, fun y => ?_⟩
      · rw [hm]
        intro z hz
        rcases List.mem_or_eq_of_mem_set hz with hz | rfl
        · exact hw z hz
        · exact ⟨a, d, rfl, rfl⟩
      · rw [hm]
        exact hu.set x _ hx1 (by simp [hx2]) rfl
      · rw [hm, mget_set a es.toList j x _ hx1 (by simp [hx2, keyIs]) (by simp [hx2]) h4 y, hf]
        rfl
end
end Go.Proofs.Qxb6500749a
