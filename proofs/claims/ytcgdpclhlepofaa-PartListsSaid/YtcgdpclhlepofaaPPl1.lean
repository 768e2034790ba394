/- Slices that a call has made, cut and appended to: their cells, whatever their address and capacity; one law for every append. -/
import Derived.Test.YtcgdpclhlepofaaRows
import Derived.WalkKit
import Derived.OwnWalk
import Derived.ArgAppend
import Derived.Laws.AppendOwnNone
import Derived.Laws.IdiomCopy
import Derived.Below
import Derived.Carry
import Derived.Maps.AppendAt
import Derived.Deep.AppendLies
import Derived.WalkSpells
import Derived.WalkLawsBesides
import Derived.Lib.Hide
import Derived.Deep.Draws
import Derived.RegionTactic
namespace Go.Proofs.Ytcgdpclhlepofaa
open Go.RowKit

section
variable {w w' : World} {B : Nat} {e : TypeId} {size : Nat} {v : Value} {n : Nat} {xs : List Value}

/-- The slice v has n elements, whose cells are xs; they lie in a block from B on, with room up to its capacity. -/
def Rowv (w : World) (B : Nat) (e : TypeId) (size : Nat) (v : Value) (n : Nat) (xs : List Value) : Prop :=
  xs.length = n * size ∧ ((v = .slice none 0 0 ∧ n = 0) ∨
    ∃ g off cap cur, v = .slice (some ⟨g, off, none⟩) n cap ∧ B ≤ g ∧ w.heap[g]? = some (.cells cur e (0, 0)) ∧ n ≤ cap ∧ cap ≤ maxLen ∧ off + cap * size ≤ cur.size ∧ (cur.toList.drop off).take (n * size) = xs)

theorem Rowv.nil (w : World) (B : Nat) (e : TypeId) (size : Nat) : Rowv w B e size (.slice none 0 0) 0 [] := ⟨by simp, .inl ⟨rfl, rfl⟩⟩
theorem Rowv.of_own (h : w.ownsRow B e size v n xs) : Rowv w B e size v n xs := by
  obtain ⟨h0, h⟩ := h
  refine ⟨h0, h.imp id ?_⟩
  rintro ⟨g, cap, cur, h1, h2, h3, h4, h5, h6, h7⟩
  exact ⟨g, 0, cap, cur, h1, h2, h3, h4, h5, by omega, by simpa using h7⟩
theorem Rowv.lt (h : Rowv w B e size v n xs) {k : Nat} (hk : v.ownBlock = some k) : B ≤ k ∧ k < w.heap.size := by
  rcases h.2 with ⟨rfl, _⟩ | ⟨g, off, cap, cur, rfl, h2, h3, _⟩
  · cases hk
  · obtain rfl : g = k := by simpa [Value.ownBlock] using hk
    refine ⟨h2, ?_⟩
    rcases Nat.lt_or_ge g w.heap.size with hl | hg
    · exact hl
    · rw [Array.getElem?_eq_none hg] at h3; cases h3
theorem Rowv.keep (h : Rowv w B e size v n xs) (hk : ∀ k, v.ownBlock = some k → w'.heap[k]? = w.heap[k]?) : Rowv w' B e size v n xs := by
  obtain ⟨h0, h⟩ := h
  refine ⟨h0, h.imp id ?_⟩
  rintro ⟨g, off, cap, cur, rfl, h2, h3, h4⟩
  exact ⟨g, off, cap, cur, rfl, h2, (hk g rfl).trans h3, h4⟩
theorem Rowv.keepLt (h : Rowv w B e size v n xs) (hk : ∀ k, B ≤ k → k < w.heap.size → v.ownBlock = some k → w'.heap[k]? = w.heap[k]?) : Rowv w' B e size v n xs :=
  h.keep fun k h1 => hk k (h.lt h1).1 (h.lt h1).2 h1
theorem Rowv.base (h : Rowv w B e size v n xs) {B' : Nat} (hb : ∀ k, v.ownBlock = some k → B' ≤ k) : Rowv w B' e size v n xs := by
  obtain ⟨h0, h⟩ := h
  refine ⟨h0, h.imp id ?_⟩
  rintro ⟨g, off, cap, cur, rfl, h2, h3⟩
  exact ⟨g, off, cap, cur, rfl, hb g rfl, h3⟩
theorem Rowv.shape (h : Rowv w B e size v n xs) : ∃ A cap, v = .slice A n cap ∧ n ≤ cap ∧ (A = none → n = 0 ∧ cap = 0) := by
  rcases h.2 with ⟨rfl, rfl⟩ | ⟨g, off, cap, cur, rfl, _, _, h4, _⟩
  · exact ⟨none, 0, rfl, Nat.le_refl _, fun _ => ⟨rfl, rfl⟩⟩
  · exact ⟨_, cap, rfl, h4, fun h => nomatch h⟩
/-- Where its cells lie. -/
theorem Rowv.at_ (h : Rowv w B e size v n xs) (hn : 0 < n) : ∃ g off cap, v = .slice (some ⟨g, off, none⟩) n cap ∧ B ≤ g ∧ g < w.heap.size ∧ n ≤ cap ∧
    ∀ j, j < n * size → w.cell? ⟨g, off + j, none⟩ = xs[j]? ∧ w.frozen? ⟨g, off + j, none⟩ = false := by
  have h' := h
  rcases h.2 with ⟨rfl, rfl⟩ | ⟨g, off, cap, cur, rfl, h2, h3, h4, h5, h6, h7⟩
  · omega
  · refine ⟨g, off, cap, rfl, h2, (h'.lt rfl).2, h4, fun j hj => ⟨?_, by simp [World.frozen?, h3]⟩⟩
    have hc : w.cell? ⟨g, off + j, none⟩ = cur[off + j]? := by simp [World.cell?, h3]
    rw [hc, ← h7, List.getElem?_take, if_pos hj, List.getElem?_drop, Array.getElem?_toList]

/-- A shorter slice of it, the capacity cut or not. -/
theorem Rowv.cut {A : Option Addr} {cap : Nat} (h : Rowv w B e size (.slice A n cap) n xs) {m c : Nat} (hm : m ≤ n) (hmc : m ≤ c) (hc : c ≤ cap) : Rowv w B e size (.slice A m c) m (xs.take (m * size)) := by
  have hmul : m * size ≤ n * size := Nat.mul_le_mul_right _ hm
  have hmul2 : c * size ≤ cap * size := Nat.mul_le_mul_right _ hc
  refine ⟨by rw [List.length_take, h.1]; omega, ?_⟩
  rcases h.2 with ⟨h1, rfl⟩ | ⟨g, off, cap', cur, h1, h2, h3, h4, h5, h6, h7⟩
  · injection h1 with h1 _ h3
    subst h1
    obtain rfl : m = 0 := by omega
    obtain rfl : c = 0 := by omega
    exact .inl ⟨rfl, rfl⟩
  · injection h1 with h1 _ h8
    subst h1
    subst h8
    exact .inr ⟨g, off, c, cur, rfl, h2, h3, hmc, by omega, by omega, by rw [← h7, List.take_take, Nat.min_eq_left hmul]⟩
/-- What stands behind its first elements. -/
theorem Rowv.behind {g off cap : Nat} (h : Rowv w B e size (.slice (some ⟨g, off, none⟩) n cap) n xs) {m : Nat} (hm : m ≤ n) (hc : m < cap) : Rowv w B e size (.slice (some ⟨g, off + m * size, none⟩) (n - m) (cap - m)) (n - m) (xs.drop (m * size)) := by
  have hmul : m * size ≤ n * size := Nat.mul_le_mul_right _ hm
  have hmul2 : m * size ≤ cap * size := Nat.mul_le_mul_right _ (Nat.le_of_lt hc)
  refine ⟨by rw [List.length_drop, h.1, Nat.sub_mul], ?_⟩
  rcases h.2 with ⟨h1, rfl⟩ | ⟨g', off', cap', cur, h1, h2, h3, h4, h5, h6, h7⟩
  · cases h1
  · injection h1 with h1 _ h8
    simp only [Option.some.injEq, Addr.mk.injEq, and_true] at h1
    obtain ⟨rfl, rfl⟩ := h1
    subst h8
    refine .inr ⟨g, off + m * size, cap - m, cur, rfl, h2, h3, by omega, by omega, by rw [Nat.sub_mul]; omega, ?_⟩
    rw [← h7, List.drop_take, List.drop_drop, Nat.sub_mul]
theorem Rowv.behindAll {A : Option Addr} {cap : Nat} (h : Rowv w B e size (.slice A n cap) n xs) : Rowv w B e size (.slice A 0 0) 0 [] := by
  have := h.cut (m := 0) (c := 0) (Nat.zero_le _) (Nat.le_refl _) (Nat.zero_le _)
  simpa using this

/-- The cells from o on, set one by one. -/
def setAll : Array Value → Nat → List Value → Array Value
  | cur, _, [] => cur
  | cur, o, u :: r => setAll (cur.setIfInBounds o u) (o + 1) r
theorem setAll_size : ∀ (vs : List Value) (cur : Array Value) (o : Nat), (setAll cur o vs).size = cur.size
  | [], _, _ => rfl
  | u :: r, cur, o => by rw [setAll, setAll_size r]; simp
theorem setAll_get : ∀ (vs : List Value) (cur : Array Value) (o j : Nat), (setAll cur o vs)[j]? = if o ≤ j ∧ j < o + vs.length ∧ j < cur.size then vs[j - o]? else cur[j]?
  | [], cur, o, j => by rw [setAll, if_neg (by simp; omega)]
  | u :: r, cur, o, j => by
    rw [setAll, setAll_get r]
    simp only [Array.size_setIfInBounds, List.length_cons]
    by_cases h1 : o = j
    · subst h1
      rw [if_neg (by omega)]
      by_cases h2 : o < cur.size
      · rw [if_pos (by omega)]; simp [h2]
      · rw [if_neg (by omega)]; simp [h2]
    · rw [Array.getElem?_setIfInBounds_ne h1]
      by_cases h2 : o ≤ j ∧ j < o + (r.length + 1) ∧ j < cur.size
      · rw [if_pos h2, if_pos (by omega), show j - o = (j - (o + 1)) + 1 by omega]
        simp
      · rw [if_neg h2, if_neg (by omega)]
theorem heap_setCells (b : Nat) : ∀ (vs : List Value) (o : Nat) (w : World) (cur : Array Value), w.heap[b]? = some (.cells cur e (0, 0)) →
    (w.setCells b o vs).heap[b]? = some (.cells (setAll cur o vs) e (0, 0)) ∧ (∀ k, k ≠ b → (w.setCells b o vs).heap[k]? = w.heap[k]?) ∧ (w.setCells b o vs).heap.size = w.heap.size ∧
      (w.setCells b o vs).os = w.os ∧ (w.setCells b o vs).tape = w.tape ∧ (w.setCells b o vs).output = w.output
  | [], _, _, _, h => ⟨h, fun _ _ => rfl, rfl, rfl, rfl, rfl⟩
  | u :: r, o, w, cur, h => by
    obtain ⟨h1, h2, h3, h4, h5, h6⟩ := heap_setCells b r (o + 1) (w.setCell ⟨b, o, none⟩ u) (cur.setIfInBounds o u) (by simp [World.setCell, Array.getElem?_modify, h])
    refine ⟨h1, fun k hk => ?_, ?_, h4.trans rfl, h5.trans rfl, h6.trans rfl⟩
    · rw [World.setCells, h2 k hk]
      exact Below.heap_setCell w ⟨b, o, none⟩ u k hk
    · rw [World.setCells, h3]; simp [World.setCell]

/-- A source of an append: its cells. -/
def Src (w : World) (v : Value) (m size : Nat) (news : List Value) : Prop :=
  (v = .slice none 0 0 ∧ m = 0 ∧ news = []) ∨ ∃ ad c, v = .slice (some ad) m c ∧ news.length = m * size ∧ (∀ j u, news[j]? = some u → w.cell? (ad.add j) = some u) ∧ ∀ u ∈ news, u.oneCell' = true
theorem Rowv.src (h : Rowv w B e size v n xs) (h1 : ∀ u ∈ xs, u.oneCell' = true) : Src w v n size xs := by
  rcases h.2 with ⟨rfl, rfl⟩ | ⟨g, off, cap, cur, rfl, h2, h3, h4, h5, h6, h7⟩
  · exact .inl ⟨rfl, rfl, List.eq_nil_of_length_eq_zero (by simpa using h.1)⟩
  · refine .inr ⟨_, cap, rfl, h.1, fun j u hj => ?_, h1⟩
    have hjl : j < n * size := by rw [← h.1]; exact (List.getElem?_eq_some_iff.1 hj).1
    have hc : w.cell? ⟨g, off + j, none⟩ = cur[off + j]? := by simp [World.cell?, h3]
    rw [Addr.add_lit, hc, ← hj, ← h7, List.getElem?_take, if_pos hjl, List.getElem?_drop, Array.getElem?_toList]
theorem Src.lit (w : World) {vs : List Value} {e : TypeId} {m size : Nat} (hm : vs.length = m * size) (h1 : ∀ u ∈ vs, u.oneCell' = true) (c : Nat) : Src (w.alloc (.cells vs.toArray e)) (.slice (some ⟨w.heap.size, 0, none⟩) m c) m size vs := by
  refine .inr ⟨_, c, rfl, hm, fun j u hj => ?_, h1⟩
  rw [Addr.add_lit, cell_of_row _ _ _ _ _ _ (heap_alloc_new w _)]
  simpa using hj

/-- append, whatever is appended to a slice that the call has made. -/
theorem wpList_app {P : Program} (w : World) {ops : Array Oper} {rest : List Oper} {o : Oper} {a : Act} {Q : Exit → Act → World → Prop} (hg : o.guard = none) (s x : Operand) (t : TypeId)
    (hop : o.op = Op.call { callee := Callee.builtin Builtin.append, args := #[s, x], argTypes := #[t, t] }) (e : TypeId) (i : TypeInfo) (z : Value) (size bytes : Nat) (h1 : P.underlying t = some (.slice e)) (h2 : P.info? e = some i) (h3 : i.zero = some z) (h4 : i.size = size) (h5 : i.bytes = bytes) (h6 : z.cells.size = size) (h7 : 0 < size)
    (B : Nat) (v : Value) (n : Nat) (xs : List Value) (hs : a.eval s = v) (hrow : Rowv w B e size v n xs) (u : Value) (m : Nat) (news : List Value) (hx : a.eval x = u) (hsrc : Src w u m size news) (b1 : n + m ≤ maxLen) (b2 : (n + m) * bytes ≤ 140737488355328) (hB : B ≤ w.heap.size)
    (hK : ∀ v' w', Rowv w' B e size v' (n + m) (xs ++ news) → w.grownBy w' v.ownBlock → (v'.ownBlock = v.ownBlock ∨ ∃ k, v'.ownBlock = some k ∧ w.heap.size ≤ k) → wpList P ops Q rest (a.put o.dst v') w') :
    wpList P ops Q (o :: rest) a w := by
  rcases hsrc with ⟨rfl, rfl, rfl⟩ | ⟨ad, c, rfl, hn, hc, h1c⟩
  · refine wpList_plain hg fun K hK' => ?_
    have hrun : (Builtin.append_ #[t, t] o.type #[v, .slice none 0 0]).run P w = .ok v w := by
      rcases hrow.2 with ⟨rfl, rfl⟩ | ⟨g, off, cap, cur, rfl, _, _, hnc, _⟩
      · simp [Builtin.append_, run_underlying h1, sizeOf, typeInfo, h2, Builtin.lenOf, Builtin.firstCells]
      · simp [Builtin.append_, run_underlying h1, sizeOf, typeInfo, h2, Builtin.lenOf, Builtin.firstCells, hnc, storeCells]
    unfold Oper.wp
    simp [execOp, hop, resolve, invoke, builtin, hs, hx, hrun, Result.andThen]
    exact hK' _ _ (hK v w (by simpa using hrow) ⟨rfl, rfl, rfl, Nat.le_refl _, fun _ _ _ => rfl⟩ (.inl rfl))
  · rcases hrow.2 with ⟨rfl, rfl⟩ | ⟨g, off, cap, cur, rfl, k2, k3, k4, k5, k6, k7⟩
    · have e0 : xs = [] := List.eq_nil_of_length_eq_zero (by simpa using hrow.1)
      subst e0
      refine wpList_append_own w hg s x t hop w.heap.size e i z size bytes h1 h2 h3 h4 h5 h6 h7 (.slice none 0 0) 0 [] hs (World.ownsRow_nil w w.heap.size e size) ad m c news hx hn hc h1c b1 b2 (Nat.le_refl _) ?_
      intro v' w' hown hgr hnil
      have hr := Rowv.of_own hown
      refine hK v' w' (hr.base fun k hk => Nat.le_trans hB (hr.lt hk).1) hgr ?_
      by_cases hm : m = 0
      · left; rw [hnil.2 ⟨rfl, hm⟩]
      · rcases hown.2 with ⟨h, _⟩ | ⟨g, cap, cur, rfl, hb, hh, _⟩
        · exact absurd (hnil.1 h).2 hm
        · exact .inr ⟨g, rfl, hb⟩
    · have hcell : ∀ j, w.cell? ⟨g, off + j, none⟩ = cur[off + j]? := fun j => by simp [World.cell?, k3]
      have hmul : (n + m) * size = n * size + m * size := Nat.add_mul n m size
      refine wpList_append_arg w hg s x t hop e i z size bytes h1 h2 h3 h4 h5 h6 h7 g off n cap xs hs hrow.1 (fun j u hj => ?_) ad m c news hx hn hc h1c (fun hr j hj => ?_) b1 b2 (fun hr => ?_) (fun _ v' w' hown hgr => ?_)
      · have hjl : j < n * size := by rw [← hrow.1]; exact (List.getElem?_eq_some_iff.1 hj).1
        rw [hcell, ← hj, ← k7, List.getElem?_take, if_pos hjl, List.getElem?_drop, Array.getElem?_toList]
      · have hle : (n + m) * size ≤ cap * size := Nat.mul_le_mul_right _ hr
        refine ⟨?_, by simp [World.frozen?, k3]⟩
        rw [Nat.add_assoc, hcell, Array.getElem?_eq_getElem (by omega)]
        rfl
      · have hle : (n + m) * size ≤ cap * size := Nat.mul_le_mul_right _ hr
        obtain ⟨q1, q2, q3, q4, q5, q6⟩ := heap_setCells g news (off + n * size) w cur k3
        refine hK _ _ ⟨by rw [List.length_append, hrow.1, hn, hmul], .inr ⟨g, off, cap, _, rfl, k2, q1, hr, k5, by rw [setAll_size]; exact k6, ?_⟩⟩ ⟨q4, q5, q6, by rw [q3]; exact Nat.le_refl _, fun k _ hk => q2 k fun h => hk (by rw [h]; rfl)⟩ (.inl rfl)
        apply List.ext_getElem?
        intro j
        rw [List.getElem?_take, List.getElem?_drop, Array.getElem?_toList, setAll_get]
        by_cases hj : j < (n + m) * size
        · rw [if_pos hj]
          by_cases hj2 : j < n * size
          · rw [if_neg (by omega), List.getElem?_append_left (by rw [hrow.1]; exact hj2), ← k7, List.getElem?_take, if_pos hj2, List.getElem?_drop, Array.getElem?_toList]
          · rw [if_pos (by omega), List.getElem?_append_right (by rw [hrow.1]; omega), hrow.1]
            congr 1
            omega
        · rw [if_neg hj, List.getElem?_eq_none (by rw [List.length_append, hrow.1, hn]; omega)]
      · have hr := Rowv.of_own hown
        have hb : ∀ k, v'.ownBlock = some k → w.heap.size ≤ k := fun k hk => (hr.lt hk).1
        refine hK v' w' (hr.base fun k hk => Nat.le_trans hB (hb k hk)) ⟨hgr.os, hgr.tape, hgr.output, hgr.size, fun k h _ => hgr.block k h (fun h => nomatch h)⟩ ?_
        rcases hown.2 with ⟨rfl, h⟩ | ⟨g', cap', cur', rfl, hb', _⟩
        · omega
        · exact .inr ⟨g', rfl, hb'⟩
end
end Go.Proofs.Ytcgdpclhlepofaa
/- Words for memory: a block that is known whole; what has turned between two worlds, by blocks. -/
namespace Go.Proofs.Ytcgdpclhlepofaa
open Go.RowKit

theorem ret_int {k : IntKind} {a b : Int} (h : a = b) : Ending.returned (.int k a) = .returned (.int k b) := by rw [h]
theorem ret_bool {a b : Bool} (h : a = b) : Ending.returned (.bool a) = .returned (.bool b) := by rw [h]
theorem ret_ii {k l : IntKind} {a b c d : Int} (h : a = b) (h' : c = d) : Ending.returned (.tuple #[.int k a, .int l c]) = .returned (.tuple #[.int k b, .int l d]) := by rw [h, h']
theorem ret_ib {k : IntKind} {a b : Int} {c d : Bool} (h : a = b) (h' : c = d) : Ending.returned (.tuple #[.int k a, .bool c]) = .returned (.tuple #[.int k b, .bool d]) := by rw [h, h']
theorem bd_u64 {x : Int} (h : (Lit.int .u64 x).wf = true) : 0 ≤ x ∧ x ≤ 18446744073709551615 := by
  simp [Lit.wf, IntKind.min, IntKind.max, IntKind.signed, IntKind.bits] at h
  omega
theorem bd_i64 {x : Int} (h : (Lit.int .i64 x).wf = true) : -9223372036854775808 ≤ x ∧ x ≤ 9223372036854775807 := by
  simp [Lit.wf, IntKind.min, IntKind.max, IntKind.signed, IntKind.bits] at h
  omega
theorem wrap_u64_mod (x : Int) : IntKind.u64.wrap x = x % 18446744073709551616 := IntKind.wrap_u64 x

/-- Block g is just the cells cs of element type t, none of them frozen. -/
def Blk (w : World) (g : Nat) (t : TypeId) (cs : Array Value) : Prop := w.heap[g]? = some (.cells cs t (0, 0))
section
variable {w w' : World} {g : Nat} {t : TypeId} {cs : Array Value}
theorem Blk.lt (h : Blk w g t cs) : g < w.heap.size := by
  rcases Nat.lt_or_ge g w.heap.size with hlt | hge
  · exact hlt
  · unfold Blk at h; rw [Array.getElem?_eq_none hge] at h; cases h
theorem Blk.cell (h : Blk w g t cs) (i : Nat) : w.cell? ⟨g, i, none⟩ = cs[i]? := cell_of_row w g i cs t (0, 0) h
theorem Blk.frozen (h : Blk w g t cs) (i : Nat) : w.frozen? ⟨g, i, none⟩ = false := by
  unfold Blk at h
  simp [World.frozen?, h]
theorem Blk.new (w : World) (t : TypeId) (cs : Array Value) : Blk (w.alloc (.cells cs t)) w.heap.size t cs := heap_alloc_new w _
theorem Blk.alloc (h : Blk w g t cs) (o : Obj) : Blk (w.alloc o) g t cs := (Below.heap_alloc w o g h.lt).trans h
theorem Blk.set_ (h : Blk w g t cs) (i : Nat) (u : Value) : Blk (w.setCell ⟨g, i, none⟩ u) g t (cs.setIfInBounds i u) := by
  unfold Blk at h ⊢
  simp [World.setCell, Array.getElem?_modify, h]
theorem Blk.far (h : Blk w g t cs) {p : Addr} (hp : g ≠ p.block) (u : Value) : Blk (w.setCell p u) g t cs := (Below.heap_setCell w p u g hp).trans h
theorem Blk.below {B : Nat} (h : Blk w g t cs) (hb : Below B w w') (hg : g < B) : Blk w' g t cs := (hb.block g hg).trans h
theorem Blk.grown {row : Option Nat} (h : Blk w g t cs) (hb : w.grownBy w' row) (hg : some g ≠ row) : Blk w' g t cs := (hb.block g h.lt hg).trans h
theorem Blk.ne_ {g' : Nat} {t' : TypeId} {cs' : Array Value} (h : Blk w g t cs) (h' : Blk w g' t' cs') (hne : t ≠ t') : g ≠ g' := by
  rintro rfl
  unfold Blk at h h'
  rw [h] at h'
  injection h' with h'
  injection h' with _ ht
  exact hne ht
theorem Blk.drewN (h : Blk w g t cs) (n : Nat) : Blk (w.drewN n) g t cs := h
theorem Blk.uniq {t' : TypeId} {cs' : Array Value} (h : Blk w g t cs) (h' : Blk w g t' cs') : t = t' ∧ cs = cs' := by
  unfold Blk at h h'
  rw [h] at h'
  injection h' with h'
  injection h' with h1 h2
  exact ⟨h2, h1⟩
end
theorem bd_int {k : IntKind} {x : Int} (h : (Lit.int k x).wf = true) : k.min ≤ x ∧ x ≤ k.max := by
  simpa [Lit.wf] using h

/-- Beside the blocks of F nothing has turned from w to w'; what F' has besides F is new. -/
structure Fr (F : Nat → Prop) (w : World) (F' : Nat → Prop) (w' : World) : Prop where
  os : w'.os = w.os
  tape : w'.tape = w.tape
  output : w'.output = w.output
  size : w.heap.size ≤ w'.heap.size
  block : ∀ k, k < w.heap.size → ¬ F k → w'.heap[k]? = w.heap[k]?
  new : ∀ k, F' k → F k ∨ w.heap.size ≤ k
section
variable {F F' F'' G : Nat → Prop} {a w w' c : World}
theorem Fr.refl (F : Nat → Prop) (w : World) : Fr F w F w := ⟨rfl, rfl, rfl, Nat.le_refl _, fun _ _ _ => rfl, fun _ h => .inl h⟩
theorem Fr.trans (h : Fr F a F' w) (k : Fr F' w F'' c) : Fr F a F'' c :=
  ⟨k.os.trans h.os, k.tape.trans h.tape, k.output.trans h.output, Nat.le_trans h.size k.size,
    fun i hi hF => (k.block i (Nat.lt_of_lt_of_le hi h.size) fun h1 => (h.new i h1).elim hF fun h2 => by omega).trans (h.block i hi hF),
    fun i hi => (k.new i hi).elim (fun h1 => h.new i h1) fun h1 => .inr (Nat.le_trans h.size h1)⟩
/-- F may be taken wider. -/
theorem Fr.wide (h : Fr F a F' w) (hG : ∀ k, F k → G k) : Fr G a F' w :=
  ⟨h.os, h.tape, h.output, h.size, fun k hk hn => h.block k hk fun hf => hn (hG k hf), fun k hk => (h.new k hk).imp (hG k) id⟩
theorem Fr.into (h : Fr F a F' w) (hG : ∀ k, G k → F' k ∨ F k ∨ a.heap.size ≤ k) : Fr F a G w :=
  ⟨h.os, h.tape, h.output, h.size, h.block, fun k hk => (hG k hk).elim (h.new k) id⟩
theorem Fr.alloc (h : Fr F a F' w) (o : Obj) : Fr F a F' (w.alloc o) :=
  ⟨h.os, h.tape, h.output, Nat.le_trans h.size (by simp), fun k hk hF => (Below.heap_alloc w o k (Nat.lt_of_lt_of_le hk h.size)).trans (h.block k hk hF), h.new⟩
theorem Fr.drew (h : Fr F a F' w) : Fr F a F' w.drew := ⟨h.os, h.tape, h.output, h.size, h.block, h.new⟩
theorem Fr.drewN (h : Fr F a F' w) (n : Nat) : Fr F a F' (w.drewN n) := ⟨h.os, h.tape, h.output, h.size, h.block, h.new⟩
theorem Fr.set (h : Fr F a F' w) {p : Addr} (hp : F' p.block ∨ F p.block ∨ a.heap.size ≤ p.block) (u : Value) : Fr F a F' (w.setCell p u) :=
  ⟨h.os, h.tape, h.output, by simpa [World.setCell] using h.size, fun k hk hF => (Below.heap_setCell w p u k (by
    rintro rfl
    rcases hp with hp | hp | hp
    · exact (h.new _ hp).elim hF (by omega)
    · exact hF hp
    · omega)).trans (h.block k hk hF), h.new⟩
theorem Fr.grown (h : Fr F a F' w) {row : Option Nat} (hg : w.grownBy w' row) (hr : ∀ k, row = some k → F' k ∨ F k ∨ a.heap.size ≤ k) : Fr F a F' w' :=
  ⟨hg.os.trans h.os, hg.tape.trans h.tape, hg.output.trans h.output, Nat.le_trans h.size hg.size, fun k hk hF => (hg.block k (Nat.lt_of_lt_of_le hk h.size) fun e => by
    rcases hr k e.symm with h1 | h1 | h1
    · exact (h.new _ h1).elim hF (by omega)
    · exact hF h1
    · omega).trans (h.block k hk hF), h.new⟩
theorem Fr.below {B : Nat} (h : Fr F a F' w) (hF : ∀ k, F k → B ≤ k) (hB : B ≤ a.heap.size) : Below B a w :=
  ⟨h.os, h.tape, h.output, h.size, fun k hk => h.block k (by omega) fun hf => by have := hF k hf; omega⟩
theorem Fr.ge {B : Nat} (h : Fr F a F' w) (hF : ∀ k, F k → B ≤ k) (hB : B ≤ a.heap.size) : ∀ k, F' k → B ≤ k :=
  fun k hk => (h.new k hk).elim (hF k) fun h1 => Nat.le_trans hB h1
theorem Fr.of_below {B : Nat} (h : Below B a w) (hB : a.heap.size ≤ B) (F : Nat → Prop) : Fr F a F w :=
  ⟨h.os, h.tape, h.output, h.size, fun k hk _ => h.block k (by omega), fun _ h => .inl h⟩
/-- What was new anyway has turned. -/
theorem Fr.beside {G' : Nat → Prop} (h : Fr F a F' w) (hf : Fr G w G' w') (hG : ∀ k, G k → a.heap.size ≤ k) : Fr F a F' w' :=
  ⟨hf.os.trans h.os, hf.tape.trans h.tape, hf.output.trans h.output, Nat.le_trans h.size hf.size, fun k hk hF => (hf.block k (Nat.lt_of_lt_of_le hk h.size) fun hg => by have := hG k hg; omega).trans (h.block k hk hF), h.new⟩
/-- What lies apart stays apart. -/
theorem Fr.apart (h : Fr F a F' w) (hG : ∀ k, G k → k < a.heap.size ∧ ¬ F k) : ∀ k, G k → k < w.heap.size ∧ ¬ F' k :=
  fun k hk => ⟨Nat.lt_of_lt_of_le (hG k hk).1 h.size, fun hf => (h.new k hf).elim (hG k hk).2 fun h1 => by have := (hG k hk).1; omega⟩
theorem Fr.keep (h : Fr F a F' w) (hG : ∀ k, G k → k < a.heap.size ∧ ¬ F k) : ∀ k, G k → w.heap[k]? = a.heap[k]? :=
  fun k hk => h.block k (hG k hk).1 (hG k hk).2
theorem Fr.blk (h : Fr F a F' w) {k : Nat} {t : TypeId} {cs : Array Value} (hk : Blk a k t cs) (hF : ¬ F k) : Blk w k t cs := (h.block k hk.lt hF).trans hk
end
section
variable {w w' : World} {B : Nat} {e : TypeId} {size n : Nat} {v : Value} {xs : List Value}
theorem Rowv.drewN (h : Rowv w B e size v n xs) (m : Nat) : Rowv (w.drewN m) B e size v n xs := h
theorem Rowv.alloc (h : Rowv w B e size v n xs) (o : Obj) : Rowv (w.alloc o) B e size v n xs := h.keepLt fun k _ hk _ => Below.heap_alloc w o k hk
theorem Rowv.far (h : Rowv w B e size v n xs) {p : Addr} (hp : v.ownBlock ≠ some p.block) (u : Value) : Rowv (w.setCell p u) B e size v n xs := h.keep fun k hk => Below.heap_setCell w p u k fun e => hp (by rw [hk, e])
theorem Rowv.grown (h : Rowv w B e size v n xs) {row : Option Nat} (hg : w.grownBy w' row) (hne : ∀ k, v.ownBlock = some k → some k ≠ row) : Rowv w' B e size v n xs := h.keepLt fun k _ hk hv => hg.block k hk (hne k hv)
theorem Rowv.ne_ (h : Rowv w B e size v n xs) {t' : TypeId} {k : Nat} {cs : Array Value} (hb : Blk w k t' cs) (hne : t' ≠ e) : v.ownBlock ≠ some k := by
  rcases h.2 with ⟨rfl, _⟩ | ⟨g, off, cap, cur, rfl, h2, h3, _⟩
  · exact fun h => nomatch h
  · intro hk
    obtain rfl : g = k := by simpa [Value.ownBlock] using hk
    unfold Blk at hb
    rw [hb] at h3
    injection h3 with h3
    injection h3 with _ h4
    exact hne h4
end
theorem cell_alloc_ {w : World} {p : Addr} {v : Value} {o : Obj} (h : w.cell? p = some v) : (w.alloc o).cell? p = some v := by
  have hlt : p.block < w.heap.size := Nat.lt_of_not_le fun hh => by
    unfold World.cell? at h
    rw [Array.getElem?_eq_none hh] at h
    cases h
  exact (Below.cell ((Below.refl w.heap.size w).alloc (Nat.le_refl _) o) hlt).trans h
theorem grown_cell {w w' : World} {row : Option Nat} {p : Addr} {v : Value} (hg : w.grownBy w' row) (hne : some p.block ≠ row) (h : w.cell? p = some v) : w'.cell? p = some v := hg.cell h hne
theorem grown_undrew {w w' : World} {row : Option Nat} {n : Nat} (h : (w.drewN n).grownBy w' row) : w.grownBy w' row := ⟨h.os, h.tape, h.output, h.size, h.block⟩
theorem grown_drew_ {w w' : World} {row : Option Nat} {n : Nat} (h : w.grownBy w' row) : w.grownBy (w'.drewN n) row := ⟨h.os, h.tape, h.output, h.size, h.block⟩
theorem drewN_drewN (w : World) (n m : Nat) : (w.drewN n).drewN m = w.drewN (n + m) := by simp [World.drewN, Nat.add_assoc]
theorem below_drewNs {B : Nat} {w w' : World} (h : Below B w w') (n : Nat) : Below B w (w'.drewN n) := ⟨h.os, h.tape, h.output, h.size, h.block⟩
theorem drewN_heap (w : World) (n : Nat) : (w.drewN n).heap = w.heap := rfl
end Go.Proofs.Ytcgdpclhlepofaa
/- The document's words that are got and put, as plain data: what each get and put answers, what stands behind it. No program in sight. -/
namespace Go.Proofs.Ytcgdpclhlepofaa
open Go.RowKit
set_option linter.unusedVariables false

/-- words; how many more gets and puts go well (below 0: all); the error behind them; how many there were -/
structure St where
  W : List Int
  left : Int
  code : Int
  calls : Int

def sget (s : St) (a : Int) : Int × Int × St :=
  if s.left = 0 then (0, s.code, { s with calls := s.calls + 1 })
  else if (s.W.length : Int) ≤ a then (0, 4, { s with calls := s.calls + 1, left := s.left - 1 })
  else (s.W.getD a.toNat 0, 0, { s with calls := s.calls + 1, left := s.left - 1 })

def sput (s : St) (a x : Int) : Int × St :=
  if s.left = 0 then (s.code, { s with calls := s.calls + 1 })
  else if (s.W.length : Int) ≤ a then (4, { s with calls := s.calls + 1, left := s.left - 1 })
  else (0, { s with calls := s.calls + 1, left := s.left - 1, W := s.W.set a.toNat x })

/-- every word is one of 64 digits; the numbers fit -/
structure Fits (s : St) : Prop where
  words : ∀ x ∈ s.W, 0 ≤ x ∧ x ≤ 18446744073709551615
  len : (s.W.length : Int) ≤ 9223372036854775807
  code : -9223372036854775808 ≤ s.code ∧ s.code ≤ 9223372036854775807
/-- so many more may come -/
def Bud (s : St) (n : Nat) : Prop := 0 ≤ s.calls ∧ s.calls + n ≤ 4611686018427387904 ∧ (n : Int) - 4611686018427387904 ≤ s.left ∧ s.left ≤ 4611686018427387904
theorem Bud.mono {s : St} {n m : Nat} (h : Bud s m) (hn : n ≤ m) : Bud s n := by unfold Bud at *; omega

theorem getD_bd {l : List Int} (h : ∀ x ∈ l, 0 ≤ x ∧ x ≤ 18446744073709551615) (i : Nat) : 0 ≤ l.getD i 0 ∧ l.getD i 0 ≤ 18446744073709551615 := by
  by_cases hl : i < l.length
  · rw [List.getD_eq_getElem?_getD, List.getElem?_eq_getElem hl]; exact h _ (List.getElem_mem hl)
  · rw [List.getD_eq_getElem?_getD, List.getElem?_eq_none (by omega)]; simp
theorem sget_fits {s : St} (h : Fits s) (a : Int) : Fits (sget s a).2.2 := by
  unfold sget; split
  · exact ⟨h.words, h.len, h.code⟩
  · split <;> exact ⟨h.words, h.len, h.code⟩
theorem sget_word {s : St} (h : Fits s) (a : Int) : 0 ≤ (sget s a).1 ∧ (sget s a).1 ≤ 18446744073709551615 := by
  unfold sget; split
  · simp
  · split
    · simp
    · exact getD_bd h.words _
theorem sget_bud {s : St} {n : Nat} (h : Bud s (n + 1)) (a : Int) : Bud (sget s a).2.2 n := by
  unfold sget Bud at *; split
  · simp only; omega
  · split <;> (simp only; omega)
theorem sput_fits {s : St} (h : Fits s) (a x : Int) (hx : 0 ≤ x ∧ x ≤ 18446744073709551615) : Fits (sput s a x).2 := by
  unfold sput; split
  · exact ⟨h.words, h.len, h.code⟩
  · split
    · exact ⟨h.words, h.len, h.code⟩
    · refine ⟨fun y hy => ?_, by simpa using h.len, h.code⟩
      rcases List.mem_or_eq_of_mem_set hy with h1 | h1
      · exact h.words y h1
      · rw [h1]; exact hx
theorem sput_bud {s : St} {n : Nat} (h : Bud s (n + 1)) (a x : Int) : Bud (sput s a x).2 n := by
  unfold sput Bud at *; split
  · simp only; omega
  · split <;> (simp only; omega)

/-! Where no call is refused. -/
/-- no call is refused, and so many more may come -/
def Ok (s : St) (n : Nat) : Prop := s.left < 0 ∧ Bud s n
/-- behind one access -/
def gone (s : St) (p : Bool × Int × Int) : St := { s with calls := s.calls + 1, left := s.left - 1 }
theorem Ok.mono {s : St} {n m : Nat} (h : Ok s m) (hn : n ≤ m) : Ok s n := ⟨h.1, h.2.mono hn⟩
theorem Ok.gone {s : St} {n : Nat} (h : Ok s (n + 1)) (p : Bool × Int × Int) : Ok (gone s p) n := by
  obtain ⟨h1, h2⟩ := h
  unfold Bud at h2
  refine ⟨?_, ?_⟩
  · show s.left - 1 < 0; omega
  · show 0 ≤ s.calls + 1 ∧ s.calls + 1 + n ≤ _ ∧ _ ≤ s.left - 1 ∧ s.left - 1 ≤ _; omega
theorem Ok.setW {s : St} {n : Nat} (h : Ok s n) (W : List Int) : Ok { s with W := W } n := h
theorem gone_W (s : St) (p : Bool × Int × Int) : (gone s p).W = s.W := rfl
theorem sget_live {s : St} {n : Nat} (h : Ok s n) {a : Int} (ha : a < s.W.length) : sget s a = (s.W.getD a.toNat 0, 0, gone s (false, a, 0)) := by
  unfold sget
  rw [if_neg (by have := h.1; omega), if_neg (by omega)]
  rfl
theorem sput_live {s : St} {n : Nat} (h : Ok s n) {a : Int} (ha : a < s.W.length) (x : Int) : sput s a x = (0, { gone s (true, a, x) with W := s.W.set a.toNat x }) := by
  unfold sput
  rw [if_neg (by have := h.1; omega), if_neg (by omega)]
  rfl
/-- the words stand as they stood -/
def Lk (s s' : St) : Prop := s'.W = s.W
theorem Lk.refl (s : St) : Lk s s := rfl
theorem Lk.trans {s s1 s2 : St} (h : Lk s s1) (k : Lk s1 s2) : Lk s s2 := Eq.trans k h
theorem Lk.get (s : St) (a : Int) : Lk s (gone s (false, a, 0)) := rfl
end Go.Proofs.Ytcgdpclhlepofaa
/- The room's calls, as plain functions of words: what each answers, what stands behind it. No program in sight. -/
namespace Go.Proofs.Ytcgdpclhlepofaa
open Go.RowKit

/-- an address, reckoned in 64 digits -/
def uAdd (a b : Int) : Int := IntKind.u64.wrap (a + b)
theorem uAdd_bd (a b : Int) : 0 ≤ uAdd a b ∧ uAdd a b ≤ 18446744073709551615 := by unfold uAdd; rw [wrap_u64_mod]; omega
theorem uAdd_uAdd (a b c : Int) : uAdd (uAdd a b) c = uAdd a (b + c) := by unfold uAdd; rw [wrap_u64_mod, wrap_u64_mod, wrap_u64_mod]; omega

def rEnds (s : St) (a : Int) : Int × Int × Int × St :=
  match sget s a with
  | (x, e, s1) => if (e != 0) = false then (match sget s1 (uAdd a 1) with | (y, f, s2) => (x, y, f, s2)) else (0, 0, e, s1)

def rTake (s : St) (a z : Int) : Int × Int × St :=
  if z < 1 ∨ 16 < z then (0, 2, s) else
  match sget s (uAdd (uAdd a 1) z) with
  | (x, e, s1) => if (e != 0) = false then
      (if (x != 0) = false then
        match sget s1 a with
        | (n, e2, s2) => if (e2 != 0) = false then
            (match sget s2 (uAdd a 1) with
            | (m, e3, s3) => if (e3 != 0) = false then
                (if m < n ∨ m - n < z then (0, 9, s3) else
                match sput s3 a (n + z) with
                | (e4, s4) => if (e4 != 0) = false then (n, 0, s4) else (0, e4, s4))
              else (0, e3, s3))
          else (0, e2, s2)
      else
        match sget s1 (IntKind.u64.wrap (x - 1)) with
        | (y, e2, s2) => if (e2 != 0) = false then
            (match sput s2 (uAdd (uAdd a 1) z) y with
            | (e3, s3) => if (e3 != 0) = false then (IntKind.u64.wrap (x - 1), 0, s3) else (0, e3, s3))
          else (0, e2, s2))
    else (0, e, s1)

def rGive (s : St) (a p z : Int) : Int × St :=
  if z < 1 ∨ 16 < z then (2, s) else
  match sget s (uAdd (uAdd a 1) z) with
  | (x, e, s1) => if (e != 0) = false then
      (match sput s1 p x with
      | (e2, s2) => if (e2 != 0) = false then sput s2 (uAdd (uAdd a 1) z) (uAdd p 1) else (e2, s2))
    else (e, s1)

def rLeft (s : St) (a : Int) : Int × Int × St :=
  match sget s a with
  | (n, e, s1) => if (e != 0) = false then
      (match sget s1 (uAdd a 1) with
      | (m, e2, s2) => if (e2 != 0) = false then (if m < n then (0, 0, s2) else (m - n, 0, s2)) else (0, e2, s2))
    else (0, e, s1)

def layGo : Nat → Int → St → Int × St
  | 0, _, s => (0, s)
  | k + 1, a, s => match sput s a 0 with
    | (e, s1) => if (e != 0) = false then layGo k (uAdd a 1) s1 else (e, s1)

def rLay (s : St) (a x y : Int) : Int × St :=
  if y < x then (2, s) else
  match sput s a x with
  | (e, s1) => if (e != 0) = false then
      (match sput s1 (uAdd a 1) y with
      | (e2, s2) => if (e2 != 0) = false then layGo 16 (uAdd (uAdd a 1) 1) s2 else (e2, s2))
    else (e, s1)

/-- k: how many more may be told -/
def givenGo : Nat → Int → List Int → St → List Int × Int × St
  | 0, a, l, s => match sget s a with
    | (x, e, s1) => if (e != 0) = false then (if (x != 0) = false then (l, 0, s1) else ([], 2, s1)) else ([], e, s1)
  | k + 1, a, l, s => match sget s a with
    | (x, e, s1) => if (e != 0) = false then (if (x != 0) = false then (l, 0, s1) else givenGo k (IntKind.u64.wrap (x - 1)) (l ++ [IntKind.u64.wrap (x - 1)]) s1) else ([], e, s1)

def rGiven (s : St) (a z : Int) : List Int × Int × St :=
  if z < 1 ∨ 16 < z then ([], 2, s) else givenGo 65536 (uAdd (uAdd a 1) z) [] s
end Go.Proofs.Ytcgdpclhlepofaa
/- The queue's calls, as plain functions of words. No program in sight. -/
namespace Go.Proofs.Ytcgdpclhlepofaa
open Go.RowKit

/-- a get and a put of a block whose first refusal is kept -/
def bget (e : Int) (s : St) (a : Int) : Int × Int × St := if (e != 0) = false then sget s a else (0, e, s)
def bput (e : Int) (s : St) (a x : Int) : Int × St := if (e == 0) = true then sput s a x else (e, s)

/-- n cells from the kth on -/
def qLayGo (q : Int) : Nat → Int → Int → St → Int × St
  | 0, _, e, s => (e, s)
  | n + 1, k, e, s => match bput e s (uAdd q k) 0 with | (e1, s1) => qLayGo q n (k + 1) e1 s1
def qNew (s : St) (a : Int) : Int × Int × St :=
  match rTake s a 3 with
  | (q, e, s0) => match qLayGo q 3 0 e s0 with
  | (e3, s3) => if (e3 != 0) = false then (q, 0, s3) else (0, e3, s3)

def qPut (s : St) (a q x : Int) : Int × St :=
  match rTake s a 2 with
  | (n, e0, s0) => match bput e0 s0 n x with
  | (e1, s1) => match bput e1 s1 (uAdd n 1) 0 with
  | (e2, s2) => match bget e2 s2 (uAdd q 1) with
  | (en, e3, s3) => match (if (en == 0) = true then bput e3 s3 q (uAdd n 1) else bput e3 s3 (uAdd (IntKind.u64.wrap (en - 1)) 1) (uAdd n 1)) with
  | (e4, s4) => match bput e4 s4 (uAdd q 1) (uAdd n 1) with
  | (e5, s5) => match bget e5 s5 (uAdd q 2) with
  | (c, e6, s6) => bput e6 s6 (uAdd q 2) (uAdd c 1)

def qTake (s : St) (a q : Int) : Int × Bool × Int × St :=
  match bget 0 s q with
  | (n, e0, s0) => if (e0 != 0) = true ∨ (n == 0) = true then (0, false, e0, s0) else
    match bget e0 s0 (IntKind.u64.wrap (n - 1)) with
    | (x, e1, s1) => match bget e1 s1 (uAdd (IntKind.u64.wrap (n - 1)) 1) with
    | (bh, e2, s2) => match bput e2 s2 q bh with
    | (e3, s3) => match (if (bh == 0) = true then bput e3 s3 (uAdd q 1) 0 else (e3, s3)) with
    | (e4, s4) => match bget e4 s4 (uAdd q 2) with
    | (c, e5, s5) => match bput e5 s5 (uAdd q 2) (IntKind.u64.wrap (c - 1)) with
    | (e6, s6) => match (if (e6 == 0) = true then rGive s6 a (IntKind.u64.wrap (n - 1)) 2 else (e6, s6)) with
    | (e7, s7) => if (e7 != 0) = true then (0, false, e7, s7) else (x, true, 0, s7)

def qFirst (s : St) (q : Int) : Int × Bool × Int × St :=
  match bget 0 s q with
  | (n, e0, s0) => if (e0 != 0) = true ∨ (n == 0) = true then (0, false, e0, s0) else
    match bget e0 s0 (IntKind.u64.wrap (n - 1)) with
    | (x, e1, s1) => (x, e1 == 0, e1, s1)

def qLen (s : St) (q : Int) : Int × Int × St := sget s (uAdd q 2)

/-- a chain's nodes: k: how many links more may be followed; n: the next link, b: the last one, en: where it should end -/
def qChain (many : Int) : Nat → Int → Int → Int → List Int → St → List Int × Int × Int × Int × St
  | 0, _, b, en, l, s => (l, b, en, 0, s)
  | k + 1, n, b, en, l, s =>
    if (n == 0) = true then (l, b, en, 0, s) else
    if ((l.length : Int) == many) = true then (l, b, uAdd b 1, 0, s) else
    match sget s (uAdd (IntKind.u64.wrap (n - 1)) 1) with
    | (m, e, s1) => if (e != 0) = false then qChain many k m n en (l ++ [IntKind.u64.wrap (n - 1)]) s1 else (l ++ [IntKind.u64.wrap (n - 1)], n, en, e, s1)

def qNodes (s : St) (q : Int) : List Int × Int × St :=
  match bget 0 s q with
  | (n, e0, s0) => match bget e0 s0 (uAdd q 2) with
  | (many, e1, s1) => match bget e1 s1 (uAdd q 1) with
  | (en, e2, s2) => if (e2 != 0) = true then ([], e2, s2) else
    match (if 65536 < many then ([], 0, 1, 0, s2) else qChain many 65538 n 0 en [] s2) with
    | (l, b, en2, e3, s3) => if (e3 != 0) = true then ([], e3, s3) else
      if (en2 != b) = true ∨ ((l.length : Int) != many) = true then ([], 330, s3) else (l, 0, s3)

/-- the words of nodes, from the first on -/
def qWordsGo : List Int → Int → St → List Int × Int × St
  | [], e, s => ([], e, s)
  | n :: l, e, s => match bget e s n with | (x, e1, s1) => match qWordsGo l e1 s1 with | (r, e2, s2) => (x :: r, e2, s2)
def qWords (s : St) (q : Int) : List Int × Int × St :=
  match qNodes s q with
  | (l, e, s1) => match qWordsGo l e s1 with | (r, e2, s2) => if (e2 != 0) = true then ([], e2, s2) else (r, 0, s2)

def qGiveGo (a : Int) : List Int → Int → St → Int × St
  | [], e, s => (e, s)
  | n :: l, e, s => match (if (e == 0) = true then rGive s a n 2 else (e, s)) with | (e1, s1) => qGiveGo a l e1 s1
def qDrop (s : St) (a q : Int) : Int × St :=
  match qNodes s q with
  | (l, e, s1) => match qGiveGo a l e s1 with
  | (e2, s2) => if (e2 == 0) = true then rGive s2 a q 3 else (e2, s2)

theorem bget_err {e : Int} {s s' : St} {a x e' : Int} (h : bget e s a = (x, e', s')) (he : e' ≠ 0) : x = 0 := by
  unfold bget at h
  split at h
  · unfold sget at h
    split at h
    · simp at h; exact h.1.symm
    · split at h
      · simp at h; exact h.1.symm
      · simp at h; exact absurd h.2.1.symm he
  · simp at h; exact h.1.symm
theorem qChain_end {many n b en : Int} {k : Nat} {l : List Int} {s : St} (h : n = 0) : qChain many k n b en l s = (l, b, en, 0, s) := by
  cases k
  · rfl
  · rw [qChain, if_pos (by simpa using h)]
theorem qChain_long {many n b en : Int} {k : Nat} {l : List Int} {s : St} (h : n ≠ 0) (hl : (l.length : Int) = many) : qChain many (k + 1) n b en l s = (l, b, uAdd b 1, 0, s) := by
  rw [qChain, if_neg (by simpa using h), if_pos (by simpa using hl)]
theorem qChain_step {many n b en : Int} {k : Nat} {l : List Int} {s : St} {m e : Int} {s1 : St} (h : n ≠ 0) (hl : (l.length : Int) ≠ many) (hq : bget 0 s (uAdd (IntKind.u64.wrap (n - 1)) 1) = (m, e, s1)) :
    qChain many (k + 1) n b en l s = if e = 0 then qChain many k m n en (l ++ [IntKind.u64.wrap (n - 1)]) s1 else (l ++ [IntKind.u64.wrap (n - 1)], n, en, e, s1) := by
  have hq : sget s (uAdd (IntKind.u64.wrap (n - 1)) 1) = (m, e, s1) := by unfold bget at hq; rwa [if_pos (by decide)] at hq
  rw [qChain, if_neg (by simpa using h), if_neg (by simpa using hl), hq]
  simp only
  by_cases he : e = 0
  · rw [if_pos (by simpa using he), if_pos he]
  · rw [if_neg (by simpa using he), if_neg he]

/-- What is told of a chain at its end. -/
def chEnd (many : Int) (r : List Int × Int × Int × Int × St) : List Int × Int × St :=
  match r with
  | (l, b, en2, e3, s3) => if (e3 != 0) = true then ([], e3, s3) else if (en2 != b) = true ∨ ((l.length : Int) != many) = true then ([], 330, s3) else (l, 0, s3)

end Go.Proofs.Ytcgdpclhlepofaa
/- The room's calls where none is refused, and what they keep: pieces that are out or were given back never have a cell in common. No program in sight. -/
namespace Go.Proofs.Ytcgdpclhlepofaa
open Go.RowKit
set_option linter.unusedVariables false

theorem uAdd_id {a b : Int} (h1 : 0 ≤ a + b) (h2 : a + b ≤ 18446744073709551615) : uAdd a b = a + b := by unfold uAdd; rw [wrap_u64_mod]; omega
theorem uw_id {a : Int} (h1 : 0 ≤ a) (h2 : a ≤ 18446744073709551615) : IntKind.u64.wrap a = a := by rw [wrap_u64_mod]; omega
/-- the cell of the pieces of size z that were given back -/
def hd (z : Int) : Nat := (1 + z).toNat
theorem getD_set_ (l : List Int) (i j : Nat) (x : Int) : (l.set i x).getD j 0 = if i = j ∧ j < l.length then x else l.getD j 0 := by
  rw [List.getD_eq_getElem?_getD, List.getD_eq_getElem?_getD, List.getElem?_set]
  by_cases h : i = j
  · subst h
    by_cases h2 : i < l.length
    · simp [h2]
    · simp [h2]
  · simp [h]
theorem getD_ne {l : List Int} {i j : Nat} (x : Int) (h : i ≠ j) : (l.set i x).getD j 0 = l.getD j 0 := by rw [getD_set_, if_neg (by omega)]
theorem getD_eq {l : List Int} {i : Nat} (x : Int) (h : i < l.length) : (l.set i x).getD i 0 = x := by rw [getD_set_, if_pos ⟨rfl, h⟩]

/-! What the room keeps. -/

/-- two pieces without a common cell -/
def Disj (p q : Int × Int) : Prop := p.1 + p.2 ≤ q.1 ∨ q.1 + q.2 ≤ p.1
theorem Disj.symm {p q : Int × Int} (h : Disj p q) : Disj q p := Or.symm h
/-- what stands in the cell that leads to the pieces of a size: the last that was given back, and one more -/
def topOf (l : List Int) : Int := match l.getLast? with | some x => x + 1 | none => 0
theorem topOf_nil : topOf [] = 0 := rfl
theorem topOf_snoc (l : List Int) (x : Int) : topOf (l ++ [x]) = x + 1 := by simp [topOf]

structure Rm (W : List Int) (fr to : Int) (out : List (Int × Int)) (back : Nat → List Int) : Prop where
  fr0 : 18 ≤ fr
  to0 : to ≤ (W.length : Int)
  nx0 : fr ≤ W.getD 0 0
  nx1 : W.getD 0 0 ≤ to
  end_ : W.getD 1 0 = to
  top : ∀ z, 1 ≤ z → z ≤ 16 → W.getD (1 + z) 0 = topOf (back z)
  chain : ∀ z, 1 ≤ z → z ≤ 16 → ∀ l x r, back z = l ++ x :: r → W.getD x.toNat 0 = topOf l
  outIn : ∀ p ∈ out, fr ≤ p.1 ∧ 1 ≤ p.2 ∧ p.2 ≤ 16 ∧ p.1 + p.2 ≤ W.getD 0 0
  backIn : ∀ z, 1 ≤ z → z ≤ 16 → ∀ x ∈ back z, fr ≤ x ∧ x + z ≤ W.getD 0 0
  oo : out.Pairwise Disj
  ob : ∀ p ∈ out, ∀ z, 1 ≤ z → z ≤ 16 → ∀ x ∈ back z, Disj p (x, z)
  bb : ∀ z, 1 ≤ z → z ≤ 16 → (back z).Pairwise fun x y => Disj (x, (z : Int)) (y, z)
  bc : ∀ z z', 1 ≤ z → z ≤ 16 → 1 ≤ z' → z' ≤ 16 → z ≠ z' → ∀ x ∈ back z, ∀ y ∈ back z', Disj (x, (z : Int)) (y, z')

/-- Cells that belong to no piece that was given back, and do not stand in the header, may turn. -/
theorem Rm.turn {W W' : List Int} {fr to : Int} {out : List (Int × Int)} {back : Nat → List Int} (h : Rm W fr to out back) (hl : W'.length = W.length)
    (hh : ∀ j, j < 18 → W'.getD j 0 = W.getD j 0) (hb : ∀ z, 1 ≤ z → z ≤ 16 → ∀ x ∈ back z, W'.getD x.toNat 0 = W.getD x.toNat 0) : Rm W' fr to out back :=
  ⟨(h.fr0), (by rw [hl]; exact h.to0), (by rw [hh 0 (by omega)]; exact h.nx0), (by rw [hh 0 (by omega)]; exact h.nx1), (by rw [hh 1 (by omega)]; exact h.end_), (fun z h1 h2 => by rw [hh _ (by omega)]; exact h.top z h1 h2), (fun z h1 h2 l x r e => by rw [hb z h1 h2 x (by rw [e]; simp)]; exact h.chain z h1 h2 l x r e), (by rw [hh 0 (by omega)]; exact h.outIn), (by rw [hh 0 (by omega)]; exact h.backIn), (h.oo), (h.ob), (h.bb), (h.bc)⟩

theorem Rm.start {W : List Int} {fr to : Int} (h0 : 18 ≤ fr) (h1 : fr ≤ to) (h2 : to ≤ (W.length : Int)) (hw : ∀ j, W.getD j 0 = if j = 0 then fr else if j = 1 then to else 0) : Rm W fr to [] (fun _ => []) :=
  ⟨(h0), (h2), (by rw [hw]; simp), (by rw [hw]; simpa using h1), (by rw [hw]; simp), (fun z h1 h2 => by rw [hw, if_neg (by omega), if_neg (by omega)]; rfl), (fun z _ _ l x r e => by simp at e), (fun p hp => by simp at hp), (fun z _ _ x hx => by simp at hx), (.nil), (fun p hp => by simp at hp), (fun _ _ _ => .nil), (fun _ _ _ _ _ _ _ x hx => by simp at hx)⟩

/-- A piece that is out is given back. -/
theorem Rm.give {W : List Int} {fr to : Int} {o1 o2 : List (Int × Int)} {back : Nat → List Int} {p : Int} {z : Nat} (h : Rm W fr to (o1 ++ (p, (z : Int)) :: o2) back) :
    Rm ((W.set p.toNat (W.getD (1 + z) 0)).set (1 + z) (p + 1)) fr to (o1 ++ o2) (fun y => if y = z then back z ++ [p] else back y) := by
  have hp := h.outIn (p, z) (by simp)
  simp only at hp
  have f0 := h.fr0
  have t0 := h.to0
  have nx := h.nx1
  obtain ⟨q1, q2, q3, q4⟩ := hp
  have z1 : 1 ≤ z := by omega
  have z2 : z ≤ 16 := by omega
  have other : ∀ y, 1 ≤ y → y ≤ 16 → ∀ x ∈ back y, x.toNat ≠ p.toNat ∧ x.toNat ≠ 1 + z := fun y y1 y2 x hx => by
    have a := h.ob (p, z) (by simp) y y1 y2 x hx
    have b := h.backIn y y1 y2 x hx
    unfold Disj at a
    simp only at a
    omega
  have hdr : ∀ j, j < 18 → j ≠ 1 + z → ((W.set p.toNat (W.getD (1 + z) 0)).set (1 + z) (p + 1)).getD j 0 = W.getD j 0 := fun j hj hne => by
    rw [getD_ne _ (by omega), getD_ne _ (by omega)]
  have hsub : ∀ q ∈ o1 ++ o2, q ∈ o1 ++ (p, (z : Int)) :: o2 := fun q hq => by
    simp only [List.mem_append, List.mem_cons] at hq ⊢
    rcases hq with h | h
    · exact .inl h
    · exact .inr (.inr h)
  have hpo : ∀ q ∈ o1 ++ o2, Disj q (p, z) := fun q hq => by
    have hoo := h.oo
    rw [List.pairwise_append] at hoo
    obtain ⟨_, b1, b2⟩ := hoo
    rw [List.pairwise_cons] at b1
    rcases List.mem_append.1 hq with hq | hq
    · exact b2 q hq _ (by simp)
    · exact (b1.1 q hq).symm
  refine ⟨(f0), (by simpa using t0), (by rw [hdr 0 (by omega) (by omega)]; exact h.nx0), (by rw [hdr 0 (by omega) (by omega)]; exact nx), (by rw [hdr 1 (by omega) (by omega)]; exact h.end_), (fun y y1 y2 => ?_), (fun y y1 y2 l x r e => ?_), (fun q hq => by rw [hdr 0 (by omega) (by omega)]; exact h.outIn q (hsub q hq)), (fun y y1 y2 x hx => ?_), ?_, (fun q hq y y1 y2 x hx => ?_), (fun y y1 y2 => ?_), (fun y y' y1 y2 y3 y4 hne x hx x' hx' => ?_)⟩
  · by_cases hy : y = z
    · subst hy
      rw [if_pos rfl, topOf_snoc, getD_eq _ (by simp; omega)]
    · rw [if_neg hy, hdr _ (by omega) (by omega)]
      exact h.top y y1 y2
  · by_cases hy : y = z
    · subst hy
      rw [if_pos rfl] at e
      rcases List.eq_nil_or_concat r with rfl | ⟨r', x', rfl⟩
      · have e' := List.append_inj' e rfl
        obtain ⟨rfl, e2⟩ := e'
        obtain rfl : p = x := by simpa using e2
        rw [getD_ne _ (by omega), getD_eq _ (by omega)]
        exact h.top y y1 y2
      · have e' : back y ++ [p] = (l ++ x :: r') ++ [x'] := by rw [e]; simp
        obtain ⟨e1, _⟩ := List.append_inj' e' rfl
        have := other y y1 y2 x (by rw [e1]; simp)
        rw [getD_ne _ (by omega), getD_ne _ (by omega)]
        exact h.chain y y1 y2 l x r' e1
    · rw [if_neg hy] at e
      have := other y y1 y2 x (by rw [e]; simp)
      rw [getD_ne _ (by omega), getD_ne _ (by omega)]
      exact h.chain y y1 y2 l x r e
  · rw [hdr 0 (by omega) (by omega)]
    by_cases hy : y = z
    · subst hy
      rw [if_pos rfl] at hx
      rcases List.mem_append.1 hx with hx | hx
      · exact h.backIn y y1 y2 x hx
      · obtain rfl : x = p := by simpa using hx
        exact ⟨q1, q4⟩
    · rw [if_neg hy] at hx
      exact h.backIn y y1 y2 x hx
  · have hoo := h.oo
    rw [List.pairwise_append] at hoo ⊢
    obtain ⟨b0, b1, b2⟩ := hoo
    rw [List.pairwise_cons] at b1
    exact ⟨b0, b1.2, fun a ha b hb => b2 a ha b (by simp [hb])⟩
  · by_cases hy : y = z
    · subst hy
      rw [if_pos rfl] at hx
      rcases List.mem_append.1 hx with hx | hx
      · exact h.ob q (hsub q hq) y y1 y2 x hx
      · obtain rfl : x = p := by simpa using hx
        exact hpo q hq
    · rw [if_neg hy] at hx
      exact h.ob q (hsub q hq) y y1 y2 x hx
  · by_cases hy : y = z
    · subst hy
      rw [if_pos rfl, List.pairwise_append]
      refine ⟨h.bb y y1 y2, by simp, fun a ha b hb => ?_⟩
      obtain rfl : b = p := by simpa using hb
      exact (h.ob (b, y) (by simp) y y1 y2 a ha).symm
    · rw [if_neg hy]
      exact h.bb y y1 y2
  · by_cases hy : y = z
    · subst hy
      rw [if_pos rfl] at hx
      rw [if_neg (Ne.symm hne)] at hx'
      rcases List.mem_append.1 hx with hx | hx
      · exact h.bc y y' y1 y2 y3 y4 hne x hx x' hx'
      · obtain rfl : x = p := by simpa using hx
        exact h.ob (x, y) (by simp) y' y3 y4 x' hx'
    · rw [if_neg hy] at hx
      by_cases hy' : y' = z
      · subst hy'
        rw [if_pos rfl] at hx'
        rcases List.mem_append.1 hx' with hx' | hx'
        · exact h.bc y y' y1 y2 y3 y4 hne x hx x' hx'
        · obtain rfl : x' = p := by simpa using hx'
          exact (h.ob (x', y') (by simp) y y1 y2 x hx).symm
      · rw [if_neg hy'] at hx'
        exact h.bc y y' y1 y2 y3 y4 hne x hx x' hx'

/-- One that was given back is taken: the last of its size. -/
theorem Rm.back {W : List Int} {fr to : Int} {out : List (Int × Int)} {back : Nat → List Int} {p : Int} {z : Nat} {l : List Int} (h : Rm W fr to out back) (z1 : 1 ≤ z) (z2 : z ≤ 16) (e : back z = l ++ [p]) :
    W.getD (1 + z) 0 = p + 1 ∧ Rm (W.set (1 + z) (W.getD p.toNat 0)) fr to (out ++ [(p, (z : Int))]) (fun y => if y = z then l else back y) ∧ fr ≤ p ∧ p + z ≤ to ∧ ∀ q ∈ out, Disj q (p, z) := by
  have f0 := h.fr0
  have t0 := h.to0
  have nx := h.nx1
  have hp := h.backIn z z1 z2 p (by rw [e]; simp)
  have hsub : ∀ y, 1 ≤ y → y ≤ 16 → ∀ x ∈ (if y = z then l else back y), x ∈ back y := fun y _ _ x hx => by
    by_cases hy : y = z
    · subst hy; rw [if_pos rfl] at hx; rw [e]; simp [hx]
    · rwa [if_neg hy] at hx
  have hdr : ∀ j, j ≠ 1 + z → (W.set (1 + z) (W.getD p.toNat 0)).getD j 0 = W.getD j 0 := fun j hne => getD_ne _ (by omega)
  have hpd : ∀ y, 1 ≤ y → y ≤ 16 → ∀ x ∈ (if y = z then l else back y), Disj (p, (z : Int)) (x, y) := fun y y1 y2 x hx => by
    by_cases hy : y = z
    · subst hy
      rw [if_pos rfl] at hx
      have := h.bb y y1 y2
      rw [e, List.pairwise_append] at this
      exact (this.2.2 x hx p (by simp)).symm
    · rw [if_neg hy] at hx
      exact h.bc z y z1 z2 y1 y2 (Ne.symm hy) p (by rw [e]; simp) x hx
  refine ⟨by rw [h.top z z1 z2, e, topOf_snoc], ⟨(f0), (by simpa using t0), (by rw [hdr 0 (by omega)]; exact h.nx0), (by rw [hdr 0 (by omega)]; exact nx), (by rw [hdr 1 (by omega)]; exact h.end_), (fun y y1 y2 => ?_), (fun y y1 y2 l' x r e' => ?_), (fun q hq => ?_), (fun y y1 y2 x hx => by rw [hdr 0 (by omega)]; exact h.backIn y y1 y2 x (hsub y y1 y2 x hx)), ?_, (fun q hq y y1 y2 x hx => ?_), (fun y y1 y2 => ?_), (fun y y' y1 y2 y3 y4 hne x hx x' hx' => h.bc y y' y1 y2 y3 y4 hne x (hsub y y1 y2 x hx) x' (hsub y' y3 y4 x' hx'))⟩, hp.1, by omega, fun q hq => h.ob q hq z z1 z2 p (by rw [e]; simp)⟩
  · by_cases hy : y = z
    · subst hy
      rw [if_pos rfl, getD_eq _ (by omega)]
      exact h.chain y y1 y2 l p [] e
    · rw [if_neg hy, hdr _ (by omega)]
      exact h.top y y1 y2
  · have hx : x ∈ back y := hsub y y1 y2 x (by rw [e']; simp)
    have := h.backIn y y1 y2 x hx
    rw [hdr _ (by omega)]
    by_cases hy : y = z
    · subst hy
      rw [if_pos rfl] at e'
      exact h.chain y y1 y2 l' x (r ++ [p]) (by rw [e, e']; simp)
    · rw [if_neg hy] at e'
      exact h.chain y y1 y2 l' x r e'
  · rw [hdr 0 (by omega)]
    rcases List.mem_append.1 hq with hq | hq
    · exact h.outIn q hq
    · obtain rfl : q = (p, (z : Int)) := by simpa using hq
      exact ⟨hp.1, by simp only; omega, by simp only; omega, hp.2⟩
  · rw [List.pairwise_append]
    refine ⟨h.oo, by simp, fun a ha b hb => ?_⟩
    obtain rfl : b = (p, (z : Int)) := by simpa using hb
    exact h.ob a ha z z1 z2 p (by rw [e]; simp)
  · rcases List.mem_append.1 hq with hq | hq
    · exact h.ob q hq y y1 y2 x (hsub y y1 y2 x hx)
    · obtain rfl : q = (p, (z : Int)) := by simpa using hq
      exact hpd y y1 y2 x hx
  · by_cases hy : y = z
    · subst hy
      rw [if_pos rfl]
      have := h.bb y y1 y2
      rw [e, List.pairwise_append] at this
      exact this.1
    · rw [if_neg hy]; exact h.bb y y1 y2

/-- A new one is taken. -/
theorem Rm.new {W : List Int} {fr to : Int} {out : List (Int × Int)} {back : Nat → List Int} {z : Nat} (h : Rm W fr to out back) (z1 : 1 ≤ z) (z2 : z ≤ 16) (hn : W.getD 0 0 + z ≤ to) :
    Rm (W.set 0 (W.getD 0 0 + z)) fr to (out ++ [(W.getD 0 0, (z : Int))]) back ∧ ∀ q ∈ out, Disj q (W.getD 0 0, z) := by
  have f0 := h.fr0
  have t0 := h.to0
  have nx := h.nx1
  have nx0 := h.nx0
  have hdr : ∀ j, j ≠ 0 → (W.set 0 (W.getD 0 0 + z)).getD j 0 = W.getD j 0 := fun j hne => getD_ne _ (by omega)
  have h00 : (W.set 0 (W.getD 0 0 + z)).getD 0 0 = W.getD 0 0 + z := getD_eq _ (by omega)
  have hd1 : ∀ q ∈ out, Disj q (W.getD 0 0, z) := fun q hq => by
    have := h.outIn q hq
    exact .inl this.2.2.2
  refine ⟨⟨(f0), (by simpa using t0), (by rw [h00]; omega), (by rw [h00]; omega), (by rw [hdr 1 (by omega)]; exact h.end_), (fun y y1 y2 => by rw [hdr _ (by omega)]; exact h.top y y1 y2), (fun y y1 y2 l x r e => ?_), (fun q hq => ?_), (fun y y1 y2 x hx => ?_), ?_, (fun q hq y y1 y2 x hx => ?_), (h.bb), (h.bc)⟩, hd1⟩
  · have := h.backIn y y1 y2 x (by rw [e]; simp)
    rw [hdr _ (by omega)]; exact h.chain y y1 y2 l x r e
  · rw [h00]
    rcases List.mem_append.1 hq with hq | hq
    · have := h.outIn q hq
      exact ⟨this.1, this.2.1, this.2.2.1, by omega⟩
    · obtain rfl : q = (W.getD 0 0, (z : Int)) := by simpa using hq
      exact ⟨nx0, by simp only; omega, by simp only; omega, by simp only; omega⟩
  · rw [h00]
    have := h.backIn y y1 y2 x hx
    exact ⟨this.1, by omega⟩
  · rw [List.pairwise_append]
    refine ⟨h.oo, by simp, fun a ha b hb => ?_⟩
    obtain rfl : b = (W.getD 0 0, (z : Int)) := by simpa using hb
    exact hd1 a ha
  · rcases List.mem_append.1 hq with hq | hq
    · exact h.ob q hq y y1 y2 x hx
    · obtain rfl : q = (W.getD 0 0, (z : Int)) := by simpa using hq
      have := h.backIn y y1 y2 x hx
      exact .inr this.2
end Go.Proofs.Ytcgdpclhlepofaa
