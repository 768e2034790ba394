/- Slices that a call has made, cut and appended to: their cells, whatever their address and capacity; one law for every append. -/
import Derived.Test.YtfhpnlaabgkpjaaDoorRows
import Derived.WalkKit
import Derived.OwnWalk
import Derived.ArgAppend
import Derived.Laws.AppendOwnNone
import Derived.Laws.IdiomCopy
import Derived.Below
import Derived.Carry
import Derived.Maps.AppendAt
import Derived.Deep.AppendLies
import Derived.WalkSpells
import Derived.WalkLawsBesides
import Derived.Lib.Hide
import Derived.Deep.Draws
import Derived.RegionTactic
import Derived.Deep.QuietTactic
import Derived.BigQuiet
import Derived.Deep.LoopGhost
import Derived.WalkMore
import Derived.IntWalk
namespace Go.Proofs.YtfhpnlaabgkpjaaDoor
open Go.RowKit

section
variable {w w' : World} {B : Nat} {e : TypeId} {size : Nat} {v : Value} {n : Nat} {xs : List Value}

/-- The slice v has n elements, whose cells are xs; they lie in a block from B on, with room up to its capacity. -/
def Rowv (w : World) (B : Nat) (e : TypeId) (size : Nat) (v : Value) (n : Nat) (xs : List Value) : Prop :=
  xs.length = n * size ∧ ((v = .slice none 0 0 ∧ n = 0) ∨
    ∃ g off cap cur, v = .slice (some ⟨g, off, none⟩) n cap ∧ B ≤ g ∧ w.heap[g]? = some (.cells cur e (0, 0)) ∧ n ≤ cap ∧ cap ≤ maxLen ∧ off + cap * size ≤ cur.size ∧ (cur.toList.drop off).take (n * size) = xs)

theorem Rowv.nil (w : World) (B : Nat) (e : TypeId) (size : Nat) : Rowv w B e size (.slice none 0 0) 0 [] := ⟨by simp, .inl ⟨rfl, rfl⟩⟩
theorem Rowv.of_own (h : w.ownsRow B e size v n xs) : Rowv w B e size v n xs := by
  obtain ⟨h0, h⟩ := h
  refine ⟨h0, h.imp id ?_⟩
  rintro ⟨g, cap, cur, h1, h2, h3, h4, h5, h6, h7⟩
  exact ⟨g, 0, cap, cur, h1, h2, h3, h4, h5, by omega, by simpa using h7⟩
theorem Rowv.lt (h : Rowv w B e size v n xs) {k : Nat} (hk : v.ownBlock = some k) : B ≤ k ∧ k < w.heap.size := by
  rcases h.2 with ⟨rfl, _⟩ | ⟨g, off, cap, cur, rfl, h2, h3, _⟩
  · cases hk
  · obtain rfl : g = k := by simpa [Value.ownBlock] using hk
    refine ⟨h2, ?_⟩
    rcases Nat.lt_or_ge g w.heap.size with hl | hg
    · exact hl
    · rw [Array.getElem?_eq_none hg] at h3; cases h3
theorem Rowv.keep (h : Rowv w B e size v n xs) (hk : ∀ k, v.ownBlock = some k → w'.heap[k]? = w.heap[k]?) : Rowv w' B e size v n xs := by
  obtain ⟨h0, h⟩ := h
  refine ⟨h0, h.imp id ?_⟩
  rintro ⟨g, off, cap, cur, rfl, h2, h3, h4⟩
  exact ⟨g, off, cap, cur, rfl, h2, (hk g rfl).trans h3, h4⟩
theorem Rowv.keepLt (h : Rowv w B e size v n xs) (hk : ∀ k, B ≤ k → k < w.heap.size → v.ownBlock = some k → w'.heap[k]? = w.heap[k]?) : Rowv w' B e size v n xs :=
  h.keep fun k h1 => hk k (h.lt h1).1 (h.lt h1).2 h1
theorem Rowv.base (h : Rowv w B e size v n xs) {B' : Nat} (hb : ∀ k, v.ownBlock = some k → B' ≤ k) : Rowv w B' e size v n xs := by
  obtain ⟨h0, h⟩ := h
  refine ⟨h0, h.imp id ?_⟩
  rintro ⟨g, off, cap, cur, rfl, h2, h3⟩
  exact ⟨g, off, cap, cur, rfl, hb g rfl, h3⟩
theorem Rowv.shape (h : Rowv w B e size v n xs) : ∃ A cap, v = .slice A n cap ∧ n ≤ cap ∧ (A = none → n = 0 ∧ cap = 0) := by
  rcases h.2 with ⟨rfl, rfl⟩ | ⟨g, off, cap, cur, rfl, _, _, h4, _⟩
  · exact ⟨none, 0, rfl, Nat.le_refl _, fun _ => ⟨rfl, rfl⟩⟩
  · exact ⟨_, cap, rfl, h4, fun h => nomatch h⟩
/-- Where its cells lie. -/
theorem Rowv.at_ (h : Rowv w B e size v n xs) (hn : 0 < n) : ∃ g off cap, v = .slice (some ⟨g, off, none⟩) n cap ∧ B ≤ g ∧ g < w.heap.size ∧ n ≤ cap ∧
    ∀ j, j < n * size → w.cell? ⟨g, off + j, none⟩ = xs[j]? ∧ w.frozen? ⟨g, off + j, none⟩ = false := by
  have h' := h
  rcases h.2 with ⟨rfl, rfl⟩ | ⟨g, off, cap, cur, rfl, h2, h3, h4, h5, h6, h7⟩
  · omega
  · refine ⟨g, off, cap, rfl, h2, (h'.lt rfl).2, h4, fun j hj => ⟨?_, by simp [World.frozen?, h3]⟩⟩
    have hc : w.cell? ⟨g, off + j, none⟩ = cur[off + j]? := by simp [World.cell?, h3]
    rw [hc, ← h7, List.getElem?_take, if_pos hj, List.getElem?_drop, Array.getElem?_toList]

/-- A shorter slice of it, the capacity cut or not. -/
theorem Rowv.cut {A : Option Addr} {cap : Nat} (h : Rowv w B e size (.slice A n cap) n xs) {m c : Nat} (hm : m ≤ n) (hmc : m ≤ c) (hc : c ≤ cap) : Rowv w B e size (.slice A m c) m (xs.take (m * size)) := by
  have hmul : m * size ≤ n * size := Nat.mul_le_mul_right _ hm
  have hmul2 : c * size ≤ cap * size := Nat.mul_le_mul_right _ hc
  refine ⟨by rw [List.length_take, h.1]; omega, ?_⟩
  rcases h.2 with ⟨h1, rfl⟩ | ⟨g, off, cap', cur, h1, h2, h3, h4, h5, h6, h7⟩
  · injection h1 with h1 _ h3
    subst h1
    obtain rfl : m = 0 := by omega
    obtain rfl : c = 0 := by omega
    exact .inl ⟨rfl, rfl⟩
  · injection h1 with h1 _ h8
    subst h1
    subst h8
    exact .inr ⟨g, off, c, cur, rfl, h2, h3, hmc, by omega, by omega, by rw [← h7, List.take_take, Nat.min_eq_left hmul]⟩
/-- What stands behind its first elements. -/
theorem Rowv.behind {g off cap : Nat} (h : Rowv w B e size (.slice (some ⟨g, off, none⟩) n cap) n xs) {m : Nat} (hm : m ≤ n) (hc : m < cap) : Rowv w B e size (.slice (some ⟨g, off + m * size, none⟩) (n - m) (cap - m)) (n - m) (xs.drop (m * size)) := by
  have hmul : m * size ≤ n * size := Nat.mul_le_mul_right _ hm
  have hmul2 : m * size ≤ cap * size := Nat.mul_le_mul_right _ (Nat.le_of_lt hc)
  refine ⟨by rw [List.length_drop, h.1, Nat.sub_mul], ?_⟩
  rcases h.2 with ⟨h1, rfl⟩ | ⟨g', off', cap', cur, h1, h2, h3, h4, h5, h6, h7⟩
  · cases h1
  · injection h1 with h1 _ h8
    simp only [Option.some.injEq, Addr.mk.injEq, and_true] at h1
    obtain ⟨rfl, rfl⟩ := h1
    subst h8
    refine .inr ⟨g, off + m * size, cap - m, cur, rfl, h2, h3, by omega, by omega, by rw [Nat.sub_mul]; omega, ?_⟩
    rw [← h7, List.drop_take, List.drop_drop, Nat.sub_mul]
theorem Rowv.behindAll {A : Option Addr} {cap : Nat} (h : Rowv w B e size (.slice A n cap) n xs) : Rowv w B e size (.slice A 0 0) 0 [] := by
  have := h.cut (m := 0) (c := 0) (Nat.zero_le _) (Nat.le_refl _) (Nat.zero_le _)
  simpa using this

/-- The cells from o on, set one by one. -/
def setAll : Array Value → Nat → List Value → Array Value
  | cur, _, [] => cur
  | cur, o, u :: r => setAll (cur.setIfInBounds o u) (o + 1) r
theorem setAll_size : ∀ (vs : List Value) (cur : Array Value) (o : Nat), (setAll cur o vs).size = cur.size
  | [], _, _ => rfl
  | u :: r, cur, o => by rw [setAll, setAll_size r]; simp
theorem setAll_get : ∀ (vs : List Value) (cur : Array Value) (o j : Nat), (setAll cur o vs)[j]? = if o ≤ j ∧ j < o + vs.length ∧ j < cur.size then vs[j - o]? else cur[j]?
  | [], cur, o, j => by rw [setAll, if_neg (by simp; omega)]
  | u :: r, cur, o, j => by
    rw [setAll, setAll_get r]
    simp only [Array.size_setIfInBounds, List.length_cons]
    by_cases h1 : o = j
    · subst h1
      rw [if_neg (by omega)]
      by_cases h2 : o < cur.size
      · rw [if_pos (by omega)]; simp [h2]
      · rw [if_neg (by omega)]; simp [h2]
    · rw [Array.getElem?_setIfInBounds_ne h1]
      by_cases h2 : o ≤ j ∧ j < o + (r.length + 1) ∧ j < cur.size
      · rw [if_pos h2, if_pos (by omega), show j - o = (j - (o + 1)) + 1 by omega]
        simp
      · rw [if_neg h2, if_neg (by omega)]
theorem heap_setCells (b : Nat) : ∀ (vs : List Value) (o : Nat) (w : World) (cur : Array Value), w.heap[b]? = some (.cells cur e (0, 0)) →
    (w.setCells b o vs).heap[b]? = some (.cells (setAll cur o vs) e (0, 0)) ∧ (∀ k, k ≠ b → (w.setCells b o vs).heap[k]? = w.heap[k]?) ∧ (w.setCells b o vs).heap.size = w.heap.size ∧
      (w.setCells b o vs).os = w.os ∧ (w.setCells b o vs).tape = w.tape ∧ (w.setCells b o vs).output = w.output
  | [], _, _, _, h => ⟨h, fun _ _ => rfl, rfl, rfl, rfl, rfl⟩
  | u :: r, o, w, cur, h => by
    obtain ⟨h1, h2, h3, h4, h5, h6⟩ := heap_setCells b r (o + 1) (w.setCell ⟨b, o, none⟩ u) (cur.setIfInBounds o u) (by simp [World.setCell, Array.getElem?_modify, h])
    refine ⟨h1, fun k hk => ?_, ?_, h4.trans rfl, h5.trans rfl, h6.trans rfl⟩
    · rw [World.setCells, h2 k hk]
      exact Below.heap_setCell w ⟨b, o, none⟩ u k hk
    · rw [World.setCells, h3]; simp [World.setCell]

/-- A source of an append: its cells. -/
def Src (w : World) (v : Value) (m size : Nat) (news : List Value) : Prop :=
  (v = .slice none 0 0 ∧ m = 0 ∧ news = []) ∨ ∃ ad c, v = .slice (some ad) m c ∧ news.length = m * size ∧ (∀ j u, news[j]? = some u → w.cell? (ad.add j) = some u) ∧ ∀ u ∈ news, u.oneCell' = true
theorem Rowv.src (h : Rowv w B e size v n xs) (h1 : ∀ u ∈ xs, u.oneCell' = true) : Src w v n size xs := by
  rcases h.2 with ⟨rfl, rfl⟩ | ⟨g, off, cap, cur, rfl, h2, h3, h4, h5, h6, h7⟩
  · exact .inl ⟨rfl, rfl, List.eq_nil_of_length_eq_zero (by simpa using h.1)⟩
  · refine .inr ⟨_, cap, rfl, h.1, fun j u hj => ?_, h1⟩
    have hjl : j < n * size := by rw [← h.1]; exact (List.getElem?_eq_some_iff.1 hj).1
    have hc : w.cell? ⟨g, off + j, none⟩ = cur[off + j]? := by simp [World.cell?, h3]
    rw [Addr.add_lit, hc, ← hj, ← h7, List.getElem?_take, if_pos hjl, List.getElem?_drop, Array.getElem?_toList]
theorem Src.lit (w : World) {vs : List Value} {e : TypeId} {m size : Nat} (hm : vs.length = m * size) (h1 : ∀ u ∈ vs, u.oneCell' = true) (c : Nat) : Src (w.alloc (.cells vs.toArray e)) (.slice (some ⟨w.heap.size, 0, none⟩) m c) m size vs := by
  refine .inr ⟨_, c, rfl, hm, fun j u hj => ?_, h1⟩
  rw [Addr.add_lit, cell_of_row _ _ _ _ _ _ (heap_alloc_new w _)]
  simpa using hj

/-- append, whatever is appended to a slice that the call has made. -/
theorem wpList_app {P : Program} (w : World) {ops : Array Oper} {rest : List Oper} {o : Oper} {a : Act} {Q : Exit → Act → World → Prop} (hg : o.guard = none) (s x : Operand) (t : TypeId)
    (hop : o.op = Op.call { callee := Callee.builtin Builtin.append, args := #[s, x], argTypes := #[t, t] }) (e : TypeId) (i : TypeInfo) (z : Value) (size bytes : Nat) (h1 : P.underlying t = some (.slice e)) (h2 : P.info? e = some i) (h3 : i.zero = some z) (h4 : i.size = size) (h5 : i.bytes = bytes) (h6 : z.cells.size = size) (h7 : 0 < size)
    (B : Nat) (v : Value) (n : Nat) (xs : List Value) (hs : a.eval s = v) (hrow : Rowv w B e size v n xs) (u : Value) (m : Nat) (news : List Value) (hx : a.eval x = u) (hsrc : Src w u m size news) (b1 : n + m ≤ maxLen) (b2 : (n + m) * bytes ≤ 140737488355328) (hB : B ≤ w.heap.size)
    (hK : ∀ v' w', Rowv w' B e size v' (n + m) (xs ++ news) → w.grownBy w' v.ownBlock → (v'.ownBlock = v.ownBlock ∨ ∃ k, v'.ownBlock = some k ∧ w.heap.size ≤ k) → wpList P ops Q rest (a.put o.dst v') w') :
    wpList P ops Q (o :: rest) a w := by
  rcases hsrc with ⟨rfl, rfl, rfl⟩ | ⟨ad, c, rfl, hn, hc, h1c⟩
  · refine wpList_plain hg fun K hK' => ?_
    have hrun : (Builtin.append_ #[t, t] o.type #[v, .slice none 0 0]).run P w = .ok v w := by
      rcases hrow.2 with ⟨rfl, rfl⟩ | ⟨g, off, cap, cur, rfl, _, _, hnc, _⟩
      · simp [Builtin.append_, run_underlying h1, sizeOf, typeInfo, h2, Builtin.lenOf, Builtin.firstCells]
      · simp [Builtin.append_, run_underlying h1, sizeOf, typeInfo, h2, Builtin.lenOf, Builtin.firstCells, hnc, storeCells]
    unfold Oper.wp
    simp [execOp, hop, resolve, invoke, builtin, hs, hx, hrun, Result.andThen]
    exact hK' _ _ (hK v w (by simpa using hrow) ⟨rfl, rfl, rfl, Nat.le_refl _, fun _ _ _ => rfl⟩ (.inl rfl))
  · rcases hrow.2 with ⟨rfl, rfl⟩ | ⟨g, off, cap, cur, rfl, k2, k3, k4, k5, k6, k7⟩
    · have e0 : xs = [] := List.eq_nil_of_length_eq_zero (by simpa using hrow.1)
      subst e0
      refine wpList_append_own w hg s x t hop w.heap.size e i z size bytes h1 h2 h3 h4 h5 h6 h7 (.slice none 0 0) 0 [] hs (World.ownsRow_nil w w.heap.size e size) ad m c news hx hn hc h1c b1 b2 (Nat.le_refl _) ?_
      intro v' w' hown hgr hnil
      have hr := Rowv.of_own hown
      refine hK v' w' (hr.base fun k hk => Nat.le_trans hB (hr.lt hk).1) hgr ?_
      by_cases hm : m = 0
      · left; rw [hnil.2 ⟨rfl, hm⟩]
      · rcases hown.2 with ⟨h, _⟩ | ⟨g, cap, cur, rfl, hb, hh, _⟩
        · exact absurd (hnil.1 h).2 hm
        · exact .inr ⟨g, rfl, hb⟩
    · have hcell : ∀ j, w.cell? ⟨g, off + j, none⟩ = cur[off + j]? := fun j => by simp [World.cell?, k3]
      have hmul : (n + m) * size = n * size + m * size := Nat.add_mul n m size
      refine wpList_append_arg w hg s x t hop e i z size bytes h1 h2 h3 h4 h5 h6 h7 g off n cap xs hs hrow.1 (fun j u hj => ?_) ad m c news hx hn hc h1c (fun hr j hj => ?_) b1 b2 (fun hr => ?_) (fun _ v' w' hown hgr => ?_)
      · have hjl : j < n * size := by rw [← hrow.1]; exact (List.getElem?_eq_some_iff.1 hj).1
        rw [hcell, ← hj, ← k7, List.getElem?_take, if_pos hjl, List.getElem?_drop, Array.getElem?_toList]
      · have hle : (n + m) * size ≤ cap * size := Nat.mul_le_mul_right _ hr
        refine ⟨?_, by simp [World.frozen?, k3]⟩
        rw [Nat.add_assoc, hcell, Array.getElem?_eq_getElem (by omega)]
        rfl
      · have hle : (n + m) * size ≤ cap * size := Nat.mul_le_mul_right _ hr
        obtain ⟨q1, q2, q3, q4, q5, q6⟩ := heap_setCells g news (off + n * size) w cur k3
        refine hK _ _ ⟨by rw [List.length_append, hrow.1, hn, hmul], .inr ⟨g, off, cap, _, rfl, k2, q1, hr, k5, by rw [setAll_size]; exact k6, ?_⟩⟩ ⟨q4, q5, q6, by rw [q3]; exact Nat.le_refl _, fun k _ hk => q2 k fun h => hk (by rw [h]; rfl)⟩ (.inl rfl)
        apply List.ext_getElem?
        intro j
        rw [List.getElem?_take, List.getElem?_drop, Array.getElem?_toList, setAll_get]
        by_cases hj : j < (n + m) * size
        · rw [if_pos hj]
          by_cases hj2 : j < n * size
          · rw [if_neg (by omega), List.getElem?_append_left (by rw [hrow.1]; exact hj2), ← k7, List.getElem?_take, if_pos hj2, List.getElem?_drop, Array.getElem?_toList]
          · rw [if_pos (by omega), List.getElem?_append_right (by rw [hrow.1]; omega), hrow.1]
            congr 1
            omega
        · rw [if_neg hj, List.getElem?_eq_none (by rw [List.length_append, hrow.1, hn]; omega)]
      · have hr := Rowv.of_own hown
        have hb : ∀ k, v'.ownBlock = some k → w.heap.size ≤ k := fun k hk => (hr.lt hk).1
        refine hK v' w' (hr.base fun k hk => Nat.le_trans hB (hb k hk)) ⟨hgr.os, hgr.tape, hgr.output, hgr.size, fun k h _ => hgr.block k h (fun h => nomatch h)⟩ ?_
        rcases hown.2 with ⟨rfl, h⟩ | ⟨g', cap', cur', rfl, hb', _⟩
        · omega
        · exact .inr ⟨g', rfl, hb'⟩
end
end Go.Proofs.YtfhpnlaabgkpjaaDoor
/- Words for memory: a block that is known whole; what has turned between two worlds, by blocks. -/
namespace Go.Proofs.YtfhpnlaabgkpjaaDoor
open Go.RowKit

theorem ret_int {k : IntKind} {a b : Int} (h : a = b) : Ending.returned (.int k a) = .returned (.int k b) := by rw [h]
theorem ret_bool {a b : Bool} (h : a = b) : Ending.returned (.bool a) = .returned (.bool b) := by rw [h]
theorem ret_ii {k l : IntKind} {a b c d : Int} (h : a = b) (h' : c = d) : Ending.returned (.tuple #[.int k a, .int l c]) = .returned (.tuple #[.int k b, .int l d]) := by rw [h, h']
theorem ret_ib {k : IntKind} {a b : Int} {c d : Bool} (h : a = b) (h' : c = d) : Ending.returned (.tuple #[.int k a, .bool c]) = .returned (.tuple #[.int k b, .bool d]) := by rw [h, h']
theorem bd_u64 {x : Int} (h : (Lit.int .u64 x).wf = true) : 0 ≤ x ∧ x ≤ 18446744073709551615 := by
  simp [Lit.wf, IntKind.min, IntKind.max, IntKind.signed, IntKind.bits] at h
  omega
theorem bd_i64 {x : Int} (h : (Lit.int .i64 x).wf = true) : -9223372036854775808 ≤ x ∧ x ≤ 9223372036854775807 := by
  simp [Lit.wf, IntKind.min, IntKind.max, IntKind.signed, IntKind.bits] at h
  omega
theorem wrap_u64_mod (x : Int) : IntKind.u64.wrap x = x % 18446744073709551616 := IntKind.wrap_u64 x

/-- Block g is just the cells cs of element type t, none of them frozen. -/
def Blk (w : World) (g : Nat) (t : TypeId) (cs : Array Value) : Prop := w.heap[g]? = some (.cells cs t (0, 0))
section
variable {w w' : World} {g : Nat} {t : TypeId} {cs : Array Value}
theorem Blk.lt (h : Blk w g t cs) : g < w.heap.size := by
  rcases Nat.lt_or_ge g w.heap.size with hlt | hge
  · exact hlt
  · unfold Blk at h; rw [Array.getElem?_eq_none hge] at h; cases h
theorem Blk.cell (h : Blk w g t cs) (i : Nat) : w.cell? ⟨g, i, none⟩ = cs[i]? := cell_of_row w g i cs t (0, 0) h
theorem Blk.frozen (h : Blk w g t cs) (i : Nat) : w.frozen? ⟨g, i, none⟩ = false := by
  unfold Blk at h
  simp [World.frozen?, h]
theorem Blk.new (w : World) (t : TypeId) (cs : Array Value) : Blk (w.alloc (.cells cs t)) w.heap.size t cs := heap_alloc_new w _
theorem Blk.alloc (h : Blk w g t cs) (o : Obj) : Blk (w.alloc o) g t cs := (Below.heap_alloc w o g h.lt).trans h
theorem Blk.set_ (h : Blk w g t cs) (i : Nat) (u : Value) : Blk (w.setCell ⟨g, i, none⟩ u) g t (cs.setIfInBounds i u) := by
  unfold Blk at h ⊢
  simp [World.setCell, Array.getElem?_modify, h]
theorem Blk.far (h : Blk w g t cs) {p : Addr} (hp : g ≠ p.block) (u : Value) : Blk (w.setCell p u) g t cs := (Below.heap_setCell w p u g hp).trans h
theorem Blk.below {B : Nat} (h : Blk w g t cs) (hb : Below B w w') (hg : g < B) : Blk w' g t cs := (hb.block g hg).trans h
theorem Blk.grown {row : Option Nat} (h : Blk w g t cs) (hb : w.grownBy w' row) (hg : some g ≠ row) : Blk w' g t cs := (hb.block g h.lt hg).trans h
theorem Blk.ne_ {g' : Nat} {t' : TypeId} {cs' : Array Value} (h : Blk w g t cs) (h' : Blk w g' t' cs') (hne : t ≠ t') : g ≠ g' := by
  rintro rfl
  unfold Blk at h h'
  rw [h] at h'
  injection h' with h'
  injection h' with _ ht
  exact hne ht
theorem Blk.drewN (h : Blk w g t cs) (n : Nat) : Blk (w.drewN n) g t cs := h
theorem Blk.uniq {t' : TypeId} {cs' : Array Value} (h : Blk w g t cs) (h' : Blk w g t' cs') : t = t' ∧ cs = cs' := by
  unfold Blk at h h'
  rw [h] at h'
  injection h' with h'
  injection h' with h1 h2
  exact ⟨h2, h1⟩
end
theorem bd_int {k : IntKind} {x : Int} (h : (Lit.int k x).wf = true) : k.min ≤ x ∧ x ≤ k.max := by
  simpa [Lit.wf] using h

/-- Beside the blocks of F nothing has turned from w to w'; what F' has besides F is new. -/
structure Fr (F : Nat → Prop) (w : World) (F' : Nat → Prop) (w' : World) : Prop where
  os : w'.os = w.os
  tape : w'.tape = w.tape
  output : w'.output = w.output
  size : w.heap.size ≤ w'.heap.size
  block : ∀ k, k < w.heap.size → ¬ F k → w'.heap[k]? = w.heap[k]?
  new : ∀ k, F' k → F k ∨ w.heap.size ≤ k
section
variable {F F' F'' G : Nat → Prop} {a w w' c : World}
theorem Fr.refl (F : Nat → Prop) (w : World) : Fr F w F w := ⟨rfl, rfl, rfl, Nat.le_refl _, fun _ _ _ => rfl, fun _ h => .inl h⟩
theorem Fr.trans (h : Fr F a F' w) (k : Fr F' w F'' c) : Fr F a F'' c :=
  ⟨k.os.trans h.os, k.tape.trans h.tape, k.output.trans h.output, Nat.le_trans h.size k.size,
    fun i hi hF => (k.block i (Nat.lt_of_lt_of_le hi h.size) fun h1 => (h.new i h1).elim hF fun h2 => by omega).trans (h.block i hi hF),
    fun i hi => (k.new i hi).elim (fun h1 => h.new i h1) fun h1 => .inr (Nat.le_trans h.size h1)⟩
/-- F may be taken wider. -/
theorem Fr.wide (h : Fr F a F' w) (hG : ∀ k, F k → G k) : Fr G a F' w :=
  ⟨h.os, h.tape, h.output, h.size, fun k hk hn => h.block k hk fun hf => hn (hG k hf), fun k hk => (h.new k hk).imp (hG k) id⟩
theorem Fr.into (h : Fr F a F' w) (hG : ∀ k, G k → F' k ∨ F k ∨ a.heap.size ≤ k) : Fr F a G w :=
  ⟨h.os, h.tape, h.output, h.size, h.block, fun k hk => (hG k hk).elim (h.new k) id⟩
theorem Fr.alloc (h : Fr F a F' w) (o : Obj) : Fr F a F' (w.alloc o) :=
  ⟨h.os, h.tape, h.output, Nat.le_trans h.size (by simp), fun k hk hF => (Below.heap_alloc w o k (Nat.lt_of_lt_of_le hk h.size)).trans (h.block k hk hF), h.new⟩
theorem Fr.drew (h : Fr F a F' w) : Fr F a F' w.drew := ⟨h.os, h.tape, h.output, h.size, h.block, h.new⟩
theorem Fr.drewN (h : Fr F a F' w) (n : Nat) : Fr F a F' (w.drewN n) := ⟨h.os, h.tape, h.output, h.size, h.block, h.new⟩
theorem Fr.set (h : Fr F a F' w) {p : Addr} (hp : F' p.block ∨ F p.block ∨ a.heap.size ≤ p.block) (u : Value) : Fr F a F' (w.setCell p u) :=
  ⟨h.os, h.tape, h.output, by simpa [World.setCell] using h.size, fun k hk hF => (Below.heap_setCell w p u k (by
    rintro rfl
    rcases hp with hp | hp | hp
    · exact (h.new _ hp).elim hF (by omega)
    · exact hF hp
    · omega)).trans (h.block k hk hF), h.new⟩
theorem Fr.grown (h : Fr F a F' w) {row : Option Nat} (hg : w.grownBy w' row) (hr : ∀ k, row = some k → F' k ∨ F k ∨ a.heap.size ≤ k) : Fr F a F' w' :=
  ⟨hg.os.trans h.os, hg.tape.trans h.tape, hg.output.trans h.output, Nat.le_trans h.size hg.size, fun k hk hF => (hg.block k (Nat.lt_of_lt_of_le hk h.size) fun e => by
    rcases hr k e.symm with h1 | h1 | h1
    · exact (h.new _ h1).elim hF (by omega)
    · exact hF h1
    · omega).trans (h.block k hk hF), h.new⟩
theorem Fr.below {B : Nat} (h : Fr F a F' w) (hF : ∀ k, F k → B ≤ k) (hB : B ≤ a.heap.size) : Below B a w :=
  ⟨h.os, h.tape, h.output, h.size, fun k hk => h.block k (by omega) fun hf => by have := hF k hf; omega⟩
theorem Fr.ge {B : Nat} (h : Fr F a F' w) (hF : ∀ k, F k → B ≤ k) (hB : B ≤ a.heap.size) : ∀ k, F' k → B ≤ k :=
  fun k hk => (h.new k hk).elim (hF k) fun h1 => Nat.le_trans hB h1
theorem Fr.of_below {B : Nat} (h : Below B a w) (hB : a.heap.size ≤ B) (F : Nat → Prop) : Fr F a F w :=
  ⟨h.os, h.tape, h.output, h.size, fun k hk _ => h.block k (by omega), fun _ h => .inl h⟩
/-- What was new anyway has turned. -/
theorem Fr.beside {G' : Nat → Prop} (h : Fr F a F' w) (hf : Fr G w G' w') (hG : ∀ k, G k → a.heap.size ≤ k) : Fr F a F' w' :=
  ⟨hf.os.trans h.os, hf.tape.trans h.tape, hf.output.trans h.output, Nat.le_trans h.size hf.size, fun k hk hF => (hf.block k (Nat.lt_of_lt_of_le hk h.size) fun hg => by have := hG k hg; omega).trans (h.block k hk hF), h.new⟩
/-- What lies apart stays apart. -/
theorem Fr.apart (h : Fr F a F' w) (hG : ∀ k, G k → k < a.heap.size ∧ ¬ F k) : ∀ k, G k → k < w.heap.size ∧ ¬ F' k :=
  fun k hk => ⟨Nat.lt_of_lt_of_le (hG k hk).1 h.size, fun hf => (h.new k hf).elim (hG k hk).2 fun h1 => by have := (hG k hk).1; omega⟩
theorem Fr.keep (h : Fr F a F' w) (hG : ∀ k, G k → k < a.heap.size ∧ ¬ F k) : ∀ k, G k → w.heap[k]? = a.heap[k]? :=
  fun k hk => h.block k (hG k hk).1 (hG k hk).2
theorem Fr.blk (h : Fr F a F' w) {k : Nat} {t : TypeId} {cs : Array Value} (hk : Blk a k t cs) (hF : ¬ F k) : Blk w k t cs := (h.block k hk.lt hF).trans hk
end
section
variable {w w' : World} {B : Nat} {e : TypeId} {size n : Nat} {v : Value} {xs : List Value}
theorem Rowv.drewN (h : Rowv w B e size v n xs) (m : Nat) : Rowv (w.drewN m) B e size v n xs := h
theorem Rowv.alloc (h : Rowv w B e size v n xs) (o : Obj) : Rowv (w.alloc o) B e size v n xs := h.keepLt fun k _ hk _ => Below.heap_alloc w o k hk
theorem Rowv.far (h : Rowv w B e size v n xs) {p : Addr} (hp : v.ownBlock ≠ some p.block) (u : Value) : Rowv (w.setCell p u) B e size v n xs := h.keep fun k hk => Below.heap_setCell w p u k fun e => hp (by rw [hk, e])
theorem Rowv.grown (h : Rowv w B e size v n xs) {row : Option Nat} (hg : w.grownBy w' row) (hne : ∀ k, v.ownBlock = some k → some k ≠ row) : Rowv w' B e size v n xs := h.keepLt fun k _ hk hv => hg.block k hk (hne k hv)
theorem Rowv.ne_ (h : Rowv w B e size v n xs) {t' : TypeId} {k : Nat} {cs : Array Value} (hb : Blk w k t' cs) (hne : t' ≠ e) : v.ownBlock ≠ some k := by
  rcases h.2 with ⟨rfl, _⟩ | ⟨g, off, cap, cur, rfl, h2, h3, _⟩
  · exact fun h => nomatch h
  · intro hk
    obtain rfl : g = k := by simpa [Value.ownBlock] using hk
    unfold Blk at hb
    rw [hb] at h3
    injection h3 with h3
    injection h3 with _ h4
    exact hne h4
end
theorem cell_alloc_ {w : World} {p : Addr} {v : Value} {o : Obj} (h : w.cell? p = some v) : (w.alloc o).cell? p = some v := by
  have hlt : p.block < w.heap.size := Nat.lt_of_not_le fun hh => by
    unfold World.cell? at h
    rw [Array.getElem?_eq_none hh] at h
    cases h
  exact (Below.cell ((Below.refl w.heap.size w).alloc (Nat.le_refl _) o) hlt).trans h
theorem grown_cell {w w' : World} {row : Option Nat} {p : Addr} {v : Value} (hg : w.grownBy w' row) (hne : some p.block ≠ row) (h : w.cell? p = some v) : w'.cell? p = some v := hg.cell h hne
theorem grown_undrew {w w' : World} {row : Option Nat} {n : Nat} (h : (w.drewN n).grownBy w' row) : w.grownBy w' row := ⟨h.os, h.tape, h.output, h.size, h.block⟩
theorem grown_drew_ {w w' : World} {row : Option Nat} {n : Nat} (h : w.grownBy w' row) : w.grownBy (w'.drewN n) row := ⟨h.os, h.tape, h.output, h.size, h.block⟩
theorem drewN_drewN (w : World) (n m : Nat) : (w.drewN n).drewN m = w.drewN (n + m) := by simp [World.drewN, Nat.add_assoc]
theorem below_drewNs {B : Nat} {w w' : World} (h : Below B w w') (n : Nat) : Below B w (w'.drewN n) := ⟨h.os, h.tape, h.output, h.size, h.block⟩
theorem drewN_heap (w : World) (n : Nat) : (w.drewN n).heap = w.heap := rfl
end Go.Proofs.YtfhpnlaabgkpjaaDoor
/- Lists of words that a call has made: kept, one word more; two lists compared. -/
namespace Go.Proofs.YtfhpnlaabgkpjaaDoor
open Go.RowKit
set_option maxHeartbeats 2000000
set_option linter.unusedVariables false

/-- the block of a slice -/
def own (v : Value) : Nat → Prop := fun k => v.ownBlock = some k
theorem own_len {A : Option Addr} {n c n' c' k : Nat} (h : own (.slice A n c) k) : own (.slice A n' c') k := by cases A <;> exact h
theorem u64_info : (Tryd.prog.info? 38).map (fun i => (i.zero, i.size, i.bytes)) = some (some (.int .u64 0), 1, 8) := by kernel_rfl
def u64s (l : List Int) : List Value := l.map (Value.int .u64)
theorem u64s_one (l : List Int) : ∀ u ∈ u64s l, u.oneCell' = true := by
  intro u hu
  obtain ⟨y, _, rfl⟩ := List.mem_map.1 hu
  rfl
/-- The slice v has the words l, in a block of its own. -/
def Wl (w : World) (v : Value) (l : List Int) : Prop := Rowv w 0 38 1 v l.length (u64s l)
section
variable {w w' : World} {v : Value} {l : List Int} {G G' : Nat → Prop}
theorem Wl.nil (w : World) : Wl w (.slice none 0 0) [] := Rowv.nil _ _ _ _
theorem Wl.shape (h : Wl w v l) : ∃ A cap, v = .slice A l.length cap ∧ l.length ≤ cap := by
  obtain ⟨A, cap, h1, h2, _⟩ := Rowv.shape h
  exact ⟨A, cap, h1, h2⟩
theorem Wl.lt (h : Wl w v l) : ∀ k, own v k → k < w.heap.size := fun k hk => (Rowv.lt h hk).2
theorem Wl.keep (h : Wl w v l) (hk : ∀ k, own v k → w'.heap[k]? = w.heap[k]?) : Wl w' v l := Rowv.keep h hk
theorem Wl.fr (h : Wl w v l) (hf : Fr G w G' w') (hG : ∀ k, own v k → ¬ G k) : Wl w' v l := h.keep fun k hk => hf.block k (h.lt k hk) (hG k hk)
theorem Wl.alloc (h : Wl w v l) (o : Obj) : Wl (w.alloc o) v l := Rowv.alloc h o
theorem Wl.drewN (h : Wl w v l) (n : Nat) : Wl (w.drewN n) v l := h
theorem Wl.set (h : Wl w v l) {p : Addr} (hp : ¬ own v p.block) (u : Value) : Wl (w.setCell p u) v l := Rowv.far h hp u
theorem Wl.new (w : World) (l : List Int) (hl : l.length ≤ 9223372036854775807) : Wl (w.alloc (.cells (u64s l).toArray 38)) (.slice (some ⟨w.heap.size, 0, none⟩) l.length l.length) l :=
  ⟨by simp [u64s], .inr ⟨w.heap.size, 0, l.length, _, rfl, Nat.zero_le _, heap_alloc_new w _, Nat.le_refl _, by unfold maxLen; omega, by simp [u64s], by
    simp only [List.drop_zero]
    exact List.take_of_length_le (by simp [u64s])⟩⟩
end

/-- One word more: 'append(out, x)'. -/
theorem wpList_word {ops : Array Oper} {rest : List Oper} {o : Oper} {a : Act} {Q : Exit → Act → World → Prop} (wr : World) (hgd : o.guard = none) (s x : Operand)
    (ho : o.op = .call { callee := .builtin .append, args := #[s, x], argTypes := #[39, 39] })
    (v : Value) (l : List Int) (y : Int) (hs : a.eval s = v) (hl : Wl wr v l)
    (hx : a.eval x = .slice (some ⟨wr.heap.size, 0, none⟩) 1 1) (hlen : (l.length + 1) * 8 ≤ 140737488355328)
    (h : ∀ A cap w', l.length + 1 ≤ cap → Wl w' (.slice A (l.length + 1) cap) (l ++ [y]) → Fr (own v) wr (own (.slice A (l.length + 1) cap)) w' → wpList Tryd.prog ops Q rest (a.put o.dst (.slice A (l.length + 1) cap)) w') :
    wpList Tryd.prog ops Q (o :: rest) a (wr.alloc (.cells #[.int .u64 y] 38)) := by
  obtain ⟨i0, hi, hz0, hz1, hz2⟩ := info_parts u64_info
  refine wpList_app _ hgd s x 39 ho 38 i0 (.int .u64 0) 1 8 Tryd.underlying39 hi hz0 hz1 hz2 rfl (by decide) 0 v l.length (u64s l) hs (Rowv.alloc hl _) _ 1 [.int .u64 y] hx
    (Src.lit wr (vs := [.int .u64 y]) rfl (by simp [Value.oneCell']) 1) (by unfold maxLen; omega) (by omega) (Nat.zero_le _) ?_
  intro v' w' hrow hgr hown
  obtain ⟨A, cap, rfl, hc, _⟩ := hrow.shape
  refine h A cap w' hc ?_ ?_
  · unfold Wl
    rw [show (l ++ [y]).length = l.length + 1 by simp, show u64s (l ++ [y]) = u64s l ++ [.int .u64 y] by simp [u64s]]
    exact hrow
  · refine ((((Fr.refl (own v) wr).alloc _).grown hgr (fun k hk => .inl hk))).into fun k hk => ?_
    rcases hown with e | ⟨k', e, hk'⟩
    · exact .inl (by unfold own at *; rw [← e]; exact hk)
    · unfold own at hk
      rw [hk] at e
      injection e with e
      subst e
      exact .inr (.inr (by simp at hk'; omega))

/-- 'make([]uint64, n)' -/
theorem wpList_zeros {ops : Array Oper} {rest : List Oper} {o : Oper} {a : Act} {Q : Exit → Act → World → Prop} (wr : World) (hgd : o.guard = none) (l c : Operand) (ho : o.op = Op.makeSlice 39 l c)
    (kl kc : IntKind) (L C : Int) (n : Nat) (hl : a.eval l = .int kl L) (hc : a.eval c = .int kc C) (hL : L = (n : Int)) (hC : C = (n : Int)) (hn : n ≤ 1099511627776)
    (h : ∀ w', Wl w' (.slice (some ⟨wr.heap.size, 0, none⟩) n n) (List.replicate n 0) → Below wr.heap.size wr w' → wpList Tryd.prog ops Q rest (a.put o.dst (.slice (some ⟨wr.heap.size, 0, none⟩) n n)) w') :
    wpList Tryd.prog ops Q (o :: rest) a wr := by
  obtain ⟨i0, hi, hz0, hz1, hz2⟩ := info_parts u64_info
  refine wpList_make_full wr hgd l c 39 ho wr.heap.size 38 i0 (.int .u64 0) 1 Tryd.underlying39 hi hz0 hz1 kl kc L C n hl hc hL hC (by rw [hz2]; omega) (by unfold maxLen; omega) (Nat.le_refl _) ?_
  intro w' hr hg
  refine h w' ?_ ((Below.refl wr.heap.size wr).grown hg (Nat.le_refl _) (by intro k hk; cases hk))
  have e : (madeCells (Value.cells (.int .u64 0)) (n * 1)).toList = u64s (List.replicate n (0 : Int)) := by
    unfold u64s
    simp only [Value.cells, Nat.mul_one]
    apply List.ext_getElem
    · simp [size_madeCells]
    · intro i h1 h2
      simp [madeCells, Nat.mod_one]
  rw [e] at hr
  have hr' := Rowv.of_own hr
  unfold Wl
  simpa using hr'.base (B' := 0) (fun _ _ => Nat.zero_le _)
/-- the block of a list that begins at its block's head -/
theorem Wl.blk {w : World} {g cp : Nat} {l : List Int} (h : Wl w (.slice (some ⟨g, 0, none⟩) l.length cp) l) : ∃ cur, Blk w g 38 cur ∧ ∀ i, i < l.length → cur[i]? = some (.int .u64 (l.getD i 0)) := by
  obtain ⟨h0, h⟩ := h
  rcases h with ⟨h1, _⟩ | ⟨g', off, cap, cur, h1, h2, h3, h4, _, _, h7⟩
  · cases h1
  · injection h1 with h1a h1b h1c
    simp only [Option.some.injEq, Addr.mk.injEq, and_true] at h1a
    obtain ⟨rfl, rfl⟩ := h1a
    refine ⟨cur, h3, fun i hi => ?_⟩
    have e : ((cur.toList.drop 0).take (l.length * 1))[i]? = (u64s l)[i]? := by rw [h7]
    rw [List.drop_zero, List.getElem?_take, if_pos (by omega), Array.getElem?_toList] at e
    rw [e]
    unfold u64s
    rw [List.getElem?_map, List.getElem?_eq_getElem hi, List.getD_eq_getElem?_getD, List.getElem?_eq_getElem hi]
    rfl

/-- The slice v reads as the words l. -/
def Lies (w : World) (v : Value) (l : List Int) : Prop := ∃ A cp, v = .slice A l.length cp ∧ l.length ≤ cp ∧ (A = none → cp = 0) ∧ ∀ j, j < l.length → ∃ g o, A = some ⟨g, o, none⟩ ∧ w.cell? ⟨g, o + j, none⟩ = some (.int .u64 (l.getD j 0))
theorem Lies.drewN {w : World} {v : Value} {l : List Int} (h : Lies w v l) (n : Nat) : Lies (w.drewN n) v l := h
theorem Lies.alloc {w : World} {v : Value} {l : List Int} (h : Lies w v l) (o : Obj) : Lies (w.alloc o) v l := by
  obtain ⟨A, cp, rfl, hc, h0, h⟩ := h
  refine ⟨A, cp, rfl, hc, h0, fun j hj => ?_⟩
  obtain ⟨g, of, rfl, hcell⟩ := h j hj
  exact ⟨g, of, rfl, cell_alloc_ hcell⟩
theorem Lies.new (w : World) (l : List Int) (hl : l.length ≤ 9223372036854775807) : Lies (w.alloc (.cells (u64s l).toArray 38)) (.slice (some ⟨w.heap.size, 0, none⟩) l.length l.length) l := by
  refine ⟨_, _, rfl, Nat.le_refl _, (fun h => nomatch h), fun j hj => ⟨_, 0, rfl, ?_⟩⟩
  rw [(Blk.new w _ _).cell, List.getElem?_toArray]
  unfold u64s
  rw [Nat.zero_add, List.getElem?_map, List.getElem?_eq_getElem hj, List.getD_eq_getElem?_getD, List.getElem?_eq_getElem hj]
  rfl
theorem Wl.lies {w : World} {v : Value} {l : List Int} (h : Wl w v l) : Lies w v l := by
  obtain ⟨A, cap, rfl, hc, h0⟩ := Rowv.shape h
  refine ⟨A, cap, rfl, hc, fun h => (h0 h).2, fun j hj => ?_⟩
  obtain ⟨g, off, cap', hv, _, _, _, hcell⟩ := Rowv.at_ h (by omega)
  injection hv with h1 _ _
  obtain ⟨k1, _⟩ := hcell j (by omega)
  refine ⟨g, off, h1, k1.trans ?_⟩
  simp [u64s, List.getD_eq_getElem?_getD, hj]

theorem words_b {va vb : Value} {l1 l2 : List Int} {w : World} (h1 : Lies w va l1) (h2 : Lies w vb l2) (hn : (l1.length : Int) ≤ 9223372036854775807) :
    Calls Tryd.prog 19 #[va, vb] w fun e w' => (∃ n, w' = w.drewN n) ∧ e = .returned (.bool (decide (l1 = l2))) := by
  obtain ⟨A1, c1, rfl, hc1, _, k1⟩ := h1
  obtain ⟨A2, c2, rfl, hc2, _, k2⟩ := h2
  by_cases hl : l1.length = l2.length
  · go_enter Tryd.func19, Tryd.ntmps19
    go_wp2
    go_loopg [5] l1.length (fun gk c5 wr => ∃ j nd : Nat, gk + j = l1.length ∧ c5 = .int .i64 (j : Int) ∧ wr = w.drewN nd ∧ ∀ i, i < j → l1.getD i 0 = l2.getD i 0)
    case atStart => exact ⟨0, 0, rfl, rfl, rfl, fun i hi => by omega⟩
    case round =>
      obtain ⟨j, nd, hj, rfl, rfl, hall⟩ := hrel
      rcases Nat.lt_or_ge j l1.length with hlt | hge
      · obtain ⟨g1, o1, rfl, d1⟩ := k1 j hlt
        obtain ⟨g2, o2, rfl, d2⟩ := k2 j (by omega)
        generalize hy1 : l1.getD j 0 = y1 at d1
        generalize hy2 : l2.getD j 0 = y2 at d2
        have b1 : (j : Int) < l1.length := by omega
        have b2 : (j : Int) < l2.length := by omega
        go_wp2
        go_quiet (fail)
        go_wp2
        · have hne : (y1 != y2) = true := by assumption
          go_ret
          refine ⟨⟨nd + nq, drewN_drewN _ _ _⟩, ?_⟩
          have e : decide (l1 = l2) = false := decide_eq_false fun h => by rw [h, hy2] at hy1; rw [hy1] at hne; simp at hne
          rw [e]; rfl
        · have heq : (y1 != y2) = false := by assumption
          have heq : y1 = y2 := by simpa using heq
          obtain ⟨k, rfl⟩ : ∃ k, gk = k + 1 := ⟨gk - 1, by omega⟩
          go_roundg k
          case measure => omega
          case rel => exact ⟨j + 1, nd + nq, by omega, by simp, rfl, fun i hi => by
            rcases Nat.lt_or_ge i j with h | h
            · exact hall i h
            · obtain rfl : i = j := by omega
              rw [hy1, hy2, heq]⟩
      · go_wp2
        go_ret
        refine ⟨⟨nd, rfl⟩, ?_⟩
        have : l1 = l2 := List.ext_getElem hl fun i h1 h2 => by
          have := hall i (by omega)
          rw [List.getD_eq_getElem?_getD, List.getElem?_eq_getElem h1, List.getD_eq_getElem?_getD, List.getElem?_eq_getElem h2] at this
          exact this
        rw [decide_eq_true this]; rfl
  · go_enter Tryd.func19, Tryd.ntmps19
    go_wp2
    go_ret
    have e : decide (l1 = l2) = false := decide_eq_false fun h => hl (by rw [h])
    exact ⟨⟨0, rfl⟩, by rw [e]; rfl⟩

theorem Lies.src {w : World} {v : Value} {l : List Int} (h : Lies w v l) : Src w v l.length 1 (u64s l) := by
  obtain ⟨A, cp, rfl, hc, h0, h⟩ := h
  cases A with
  | none =>
    obtain rfl := h0 rfl
    obtain rfl : l = [] := List.eq_nil_of_length_eq_zero (by omega)
    exact .inl ⟨rfl, rfl, rfl⟩
  | some ad =>
    refine .inr ⟨ad, cp, rfl, by simp [u64s], fun j u hj => ?_, u64s_one l⟩
    unfold u64s at hj
    rw [List.getElem?_map] at hj
    by_cases hjl : j < l.length
    · obtain ⟨g, o, e, hcell⟩ := h j hjl
      injection e with e
      subst e
      rw [Addr.add_lit, hcell]
      rw [List.getElem?_eq_getElem hjl] at hj
      injection hj with hj
      rw [← hj, List.getD_eq_getElem?_getD, List.getElem?_eq_getElem hjl]
      rfl
    · rw [List.getElem?_eq_none (by omega)] at hj; cases hj
/-- 'append(s, l...)', s the call's own. -/
theorem wpList_words {ops : Array Oper} {rest : List Oper} {o : Oper} {a : Act} {Q : Exit → Act → World → Prop} (wr : World) (hgd : o.guard = none) (s x : Operand)
    (ho : o.op = .call { callee := .builtin .append, args := #[s, x], argTypes := #[39, 39] })
    (v u : Value) (l m : List Int) (hs : a.eval s = v) (hl : Wl wr v l) (hx : a.eval x = u) (hm : Lies wr u m) (hlen : (l.length + m.length) * 8 ≤ 140737488355328)
    (h : ∀ A cap w', l.length + m.length ≤ cap → Wl w' (.slice A (l.length + m.length) cap) (l ++ m) → Fr (own v) wr (own (.slice A (l.length + m.length) cap)) w' → wpList Tryd.prog ops Q rest (a.put o.dst (.slice A (l.length + m.length) cap)) w') :
    wpList Tryd.prog ops Q (o :: rest) a wr := by
  obtain ⟨i0, hi, hz0, hz1, hz2⟩ := info_parts u64_info
  refine wpList_app _ hgd s x 39 ho 38 i0 (.int .u64 0) 1 8 Tryd.underlying39 hi hz0 hz1 hz2 rfl (by decide) 0 v l.length (u64s l) hs hl _ m.length (u64s m) hx hm.src (by unfold maxLen; omega) (by omega) (Nat.zero_le _) ?_
  intro v' w' hrow hgr hown
  obtain ⟨A, cap, rfl, hc, _⟩ := hrow.shape
  refine h A cap w' hc ?_ ?_
  · unfold Wl
    rw [show (l ++ m).length = l.length + m.length by simp, show u64s (l ++ m) = u64s l ++ u64s m by simp [u64s]]
    exact hrow
  · refine ((Fr.refl (own v) wr).grown hgr (fun k hk => .inl hk)).into fun k hk => ?_
    rcases hown with e | ⟨k', e, hk'⟩
    · exact .inl (by unfold own at *; rw [← e]; exact hk)
    · unfold own at hk
      rw [hk] at e
      injection e with e
      subst e
      exact .inr (.inr hk')
theorem Wl.cut {w : World} {A : Option Addr} {cap : Nat} {l m : List Int} (h : Wl w (.slice A (l.length + m.length) cap) (l ++ m)) (hc : l.length + m.length ≤ cap) : Wl w (.slice A l.length cap) l := by
  have h' : Rowv w 0 38 1 (.slice A (l.length + m.length) cap) (l.length + m.length) (u64s (l ++ m)) := by
    unfold Wl at h
    simpa using h
  have := h'.cut (m := l.length) (c := cap) (by omega) (by omega) (Nat.le_refl _)
  unfold Wl
  rw [show u64s l = (u64s (l ++ m)).take (l.length * 1) by simp [u64s]]
  exact this
theorem Lies.below {w w' : World} {v : Value} {l : List Int} (h : Lies w v l) (hb : Below w.heap.size w w') : Lies w' v l := by
  obtain ⟨A, cp, rfl, hc, h0, h⟩ := h
  refine ⟨A, cp, rfl, hc, h0, fun j hj => ?_⟩
  obtain ⟨g, of, rfl, hcell⟩ := h j hj
  have hlt : g < w.heap.size := Nat.lt_of_not_le fun hh => by
    unfold World.cell? at hcell
    rw [Array.getElem?_eq_none hh] at hcell
    cases hcell
  exact ⟨g, of, rfl, (hb.cell (p := ⟨g, of + j, none⟩) hlt).trans hcell⟩
theorem Wl.upd {w : World} {A : Option Addr} {cap : Nat} {l : List Int} (h : Wl w (.slice A l.length cap) l) {j : Nat} (hj : j < l.length) :
    ∃ g o, A = some ⟨g, o, none⟩ ∧ g < w.heap.size ∧ w.cell? ⟨g, o + j, none⟩ = some (.int .u64 (l.getD j 0)) ∧ w.frozen? ⟨g, o + j, none⟩ = false ∧
      ∀ x, Wl (w.setCell ⟨g, o + j, none⟩ (.int .u64 x)) (.slice A (l.set j x).length cap) (l.set j x) := by
  have hlt := h.lt
  obtain ⟨h0, h⟩ := h
  rcases h with ⟨h1, h2⟩ | ⟨g, off, cap', cur, h1, h2, h3, h4, h5, h6, h7⟩
  · omega
  · injection h1 with h1a h1b h1c
    subst h1a
    subst h1c
    have hc : w.cell? ⟨g, off + j, none⟩ = cur[off + j]? := by simp [World.cell?, h3]
    have e7 : ∀ i, i < l.length → cur[off + i]? = some (.int .u64 (l.getD i 0)) := fun i hi => by
      have e : ((cur.toList.drop off).take (l.length * 1))[i]? = (u64s l)[i]? := by rw [h7]
      rw [List.getElem?_take, if_pos (by omega), List.getElem?_drop, Array.getElem?_toList] at e
      rw [e]
      unfold u64s
      rw [List.getElem?_map, List.getElem?_eq_getElem hi, List.getD_eq_getElem?_getD, List.getElem?_eq_getElem hi]
      rfl
    refine ⟨g, off, rfl, hlt g rfl, hc.trans (e7 j hj), by simp [World.frozen?, h3], fun x => ⟨by simp [u64s], .inr ⟨g, off, cap, cur.setIfInBounds (off + j) (.int .u64 x), rfl, h2, ?_, by simpa using h4, h5, by simpa using h6, ?_⟩⟩⟩
    · exact (show Blk w g 38 cur from h3).set_ (off + j) (.int .u64 x)
    · apply List.ext_getElem?
      intro i
      rw [List.getElem?_take, List.getElem?_drop, Array.getElem?_toList]
      simp only [List.length_set, Nat.mul_one]
      by_cases hi : i < l.length
      · have hs : off + j < cur.size := by omega
        rw [if_pos hi, Array.getElem?_setIfInBounds]
        unfold u64s
        rw [List.map_set, List.getElem?_set]
        by_cases e : j = i
        · subst e
          simp [hs, hi]
        · rw [if_neg (by omega), if_neg e, e7 i hi, List.getElem?_map, List.getElem?_eq_getElem hi, List.getD_eq_getElem?_getD, List.getElem?_eq_getElem hi]
          rfl
      · rw [if_neg hi, List.getElem?_eq_none (by simp [u64s]; omega)]
end Go.Proofs.YtfhpnlaabgkpjaaDoor
