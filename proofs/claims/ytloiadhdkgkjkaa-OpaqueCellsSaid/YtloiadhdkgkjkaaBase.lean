/- Words for memory: a block that is known whole; what has turned between two worlds, by blocks. -/
import Derived.Test.YtloiadhdkgkjkaaRows
import Derived.WalkKit
import Derived.WalkSpells
import Derived.WalkLawsBesides
import Derived.Lib.Hide
import Derived.Maps.AppendAt
import Derived.Deep.AppendLies
import Derived.Deep.Draws
import Derived.RegionTactic
import Derived.OwnWalk
import Derived.Test.YtloiadhdkgkjkaaRow
namespace Go.Proofs.Ytloiadhdkgkjkaa
open Go.RowKit

theorem ret_int {k : IntKind} {a b : Int} (h : a = b) : Ending.returned (.int k a) = .returned (.int k b) := by rw [h]
theorem ret_bool {a b : Bool} (h : a = b) : Ending.returned (.bool a) = .returned (.bool b) := by rw [h]
theorem ret_ii {k l : IntKind} {a b c d : Int} (h : a = b) (h' : c = d) : Ending.returned (.tuple #[.int k a, .int l c]) = .returned (.tuple #[.int k b, .int l d]) := by rw [h, h']
theorem ret_ib {k : IntKind} {a b : Int} {c d : Bool} (h : a = b) (h' : c = d) : Ending.returned (.tuple #[.int k a, .bool c]) = .returned (.tuple #[.int k b, .bool d]) := by rw [h, h']
theorem bd_u64 {x : Int} (h : (Lit.int .u64 x).wf = true) : 0 ≤ x ∧ x ≤ 18446744073709551615 := by
  simp [Lit.wf, IntKind.min, IntKind.max, IntKind.signed, IntKind.bits] at h
  omega
theorem bd_i64 {x : Int} (h : (Lit.int .i64 x).wf = true) : -9223372036854775808 ≤ x ∧ x ≤ 9223372036854775807 := by
  simp [Lit.wf, IntKind.min, IntKind.max, IntKind.signed, IntKind.bits] at h
  omega
theorem wrap_u64_mod (x : Int) : IntKind.u64.wrap x = x % 18446744073709551616 := IntKind.wrap_u64 x

/-- Block g is just the cells cs of element type t, none of them frozen. -/
def Blk (w : World) (g : Nat) (t : TypeId) (cs : Array Value) : Prop := w.heap[g]? = some (.cells cs t (0, 0))
section
variable {w w' : World} {g : Nat} {t : TypeId} {cs : Array Value}
theorem Blk.lt (h : Blk w g t cs) : g < w.heap.size := by
  rcases Nat.lt_or_ge g w.heap.size with hlt | hge
  · exact hlt
  · unfold Blk at h; rw [Array.getElem?_eq_none hge] at h; cases h
theorem Blk.cell (h : Blk w g t cs) (i : Nat) : w.cell? ⟨g, i, none⟩ = cs[i]? := cell_of_row w g i cs t (0, 0) h
theorem Blk.frozen (h : Blk w g t cs) (i : Nat) : w.frozen? ⟨g, i, none⟩ = false := by
  unfold Blk at h
  simp [World.frozen?, h]
theorem Blk.new (w : World) (t : TypeId) (cs : Array Value) : Blk (w.alloc (.cells cs t)) w.heap.size t cs := heap_alloc_new w _
theorem Blk.alloc (h : Blk w g t cs) (o : Obj) : Blk (w.alloc o) g t cs := (Below.heap_alloc w o g h.lt).trans h
theorem Blk.set_ (h : Blk w g t cs) (i : Nat) (u : Value) : Blk (w.setCell ⟨g, i, none⟩ u) g t (cs.setIfInBounds i u) := by
  unfold Blk at h ⊢
  simp [World.setCell, Array.getElem?_modify, h]
theorem Blk.far (h : Blk w g t cs) {p : Addr} (hp : g ≠ p.block) (u : Value) : Blk (w.setCell p u) g t cs := (Below.heap_setCell w p u g hp).trans h
theorem Blk.below {B : Nat} (h : Blk w g t cs) (hb : Below B w w') (hg : g < B) : Blk w' g t cs := (hb.block g hg).trans h
theorem Blk.grown {row : Option Nat} (h : Blk w g t cs) (hb : w.grownBy w' row) (hg : some g ≠ row) : Blk w' g t cs := (hb.block g h.lt hg).trans h
theorem Blk.ne_ {g' : Nat} {t' : TypeId} {cs' : Array Value} (h : Blk w g t cs) (h' : Blk w g' t' cs') (hne : t ≠ t') : g ≠ g' := by
  rintro rfl
  unfold Blk at h h'
  rw [h] at h'
  injection h' with h'
  injection h' with _ ht
  exact hne ht
theorem Blk.drewN (h : Blk w g t cs) (n : Nat) : Blk (w.drewN n) g t cs := h
theorem Blk.uniq {t' : TypeId} {cs' : Array Value} (h : Blk w g t cs) (h' : Blk w g t' cs') : t = t' ∧ cs = cs' := by
  unfold Blk at h h'
  rw [h] at h'
  injection h' with h'
  injection h' with h1 h2
  exact ⟨h2, h1⟩
end
theorem bd_int {k : IntKind} {x : Int} (h : (Lit.int k x).wf = true) : k.min ≤ x ∧ x ≤ k.max := by
  simpa [Lit.wf] using h

/-- Beside the blocks of F nothing has turned from w to w'; what F' has besides F is new. -/
structure Fr (F : Nat → Prop) (w : World) (F' : Nat → Prop) (w' : World) : Prop where
  os : w'.os = w.os
  tape : w'.tape = w.tape
  output : w'.output = w.output
  size : w.heap.size ≤ w'.heap.size
  block : ∀ k, k < w.heap.size → ¬ F k → w'.heap[k]? = w.heap[k]?
  new : ∀ k, F' k → F k ∨ w.heap.size ≤ k
section
variable {F F' F'' G : Nat → Prop} {a w w' c : World}
theorem Fr.refl (F : Nat → Prop) (w : World) : Fr F w F w := ⟨rfl, rfl, rfl, Nat.le_refl _, fun _ _ _ => rfl, fun _ h => .inl h⟩
theorem Fr.trans (h : Fr F a F' w) (k : Fr F' w F'' c) : Fr F a F'' c :=
  ⟨k.os.trans h.os, k.tape.trans h.tape, k.output.trans h.output, Nat.le_trans h.size k.size,
    fun i hi hF => (k.block i (Nat.lt_of_lt_of_le hi h.size) fun h1 => (h.new i h1).elim hF fun h2 => by omega).trans (h.block i hi hF),
    fun i hi => (k.new i hi).elim (fun h1 => h.new i h1) fun h1 => .inr (Nat.le_trans h.size h1)⟩
/-- F may be taken wider. -/
theorem Fr.wide (h : Fr F a F' w) (hG : ∀ k, F k → G k) : Fr G a F' w :=
  ⟨h.os, h.tape, h.output, h.size, fun k hk hn => h.block k hk fun hf => hn (hG k hf), fun k hk => (h.new k hk).imp (hG k) id⟩
theorem Fr.into (h : Fr F a F' w) (hG : ∀ k, G k → F' k ∨ F k ∨ a.heap.size ≤ k) : Fr F a G w :=
  ⟨h.os, h.tape, h.output, h.size, h.block, fun k hk => (hG k hk).elim (h.new k) id⟩
theorem Fr.alloc (h : Fr F a F' w) (o : Obj) : Fr F a F' (w.alloc o) :=
  ⟨h.os, h.tape, h.output, Nat.le_trans h.size (by simp), fun k hk hF => (Below.heap_alloc w o k (Nat.lt_of_lt_of_le hk h.size)).trans (h.block k hk hF), h.new⟩
theorem Fr.drew (h : Fr F a F' w) : Fr F a F' w.drew := ⟨h.os, h.tape, h.output, h.size, h.block, h.new⟩
theorem Fr.drewN (h : Fr F a F' w) (n : Nat) : Fr F a F' (w.drewN n) := ⟨h.os, h.tape, h.output, h.size, h.block, h.new⟩
theorem Fr.set (h : Fr F a F' w) {p : Addr} (hp : F' p.block ∨ F p.block ∨ a.heap.size ≤ p.block) (u : Value) : Fr F a F' (w.setCell p u) :=
  ⟨h.os, h.tape, h.output, by simpa [World.setCell] using h.size, fun k hk hF => (Below.heap_setCell w p u k (by
    rintro rfl
    rcases hp with hp | hp | hp
    · exact (h.new _ hp).elim hF (by omega)
    · exact hF hp
    · omega)).trans (h.block k hk hF), h.new⟩
theorem Fr.grown (h : Fr F a F' w) {row : Option Nat} (hg : w.grownBy w' row) (hr : ∀ k, row = some k → F' k ∨ F k ∨ a.heap.size ≤ k) : Fr F a F' w' :=
  ⟨hg.os.trans h.os, hg.tape.trans h.tape, hg.output.trans h.output, Nat.le_trans h.size hg.size, fun k hk hF => (hg.block k (Nat.lt_of_lt_of_le hk h.size) fun e => by
    rcases hr k e.symm with h1 | h1 | h1
    · exact (h.new _ h1).elim hF (by omega)
    · exact hF h1
    · omega).trans (h.block k hk hF), h.new⟩
theorem Fr.below {B : Nat} (h : Fr F a F' w) (hF : ∀ k, F k → B ≤ k) (hB : B ≤ a.heap.size) : Below B a w :=
  ⟨h.os, h.tape, h.output, h.size, fun k hk => h.block k (by omega) fun hf => by have := hF k hf; omega⟩
theorem Fr.ge {B : Nat} (h : Fr F a F' w) (hF : ∀ k, F k → B ≤ k) (hB : B ≤ a.heap.size) : ∀ k, F' k → B ≤ k :=
  fun k hk => (h.new k hk).elim (hF k) fun h1 => Nat.le_trans hB h1
theorem Fr.of_below {B : Nat} (h : Below B a w) (hB : a.heap.size ≤ B) (F : Nat → Prop) : Fr F a F w :=
  ⟨h.os, h.tape, h.output, h.size, fun k hk _ => h.block k (by omega), fun _ h => .inl h⟩
/-- What was new anyway has turned. -/
theorem Fr.beside {G' : Nat → Prop} (h : Fr F a F' w) (hf : Fr G w G' w') (hG : ∀ k, G k → a.heap.size ≤ k) : Fr F a F' w' :=
  ⟨hf.os.trans h.os, hf.tape.trans h.tape, hf.output.trans h.output, Nat.le_trans h.size hf.size, fun k hk hF => (hf.block k (Nat.lt_of_lt_of_le hk h.size) fun hg => by have := hG k hg; omega).trans (h.block k hk hF), h.new⟩
/-- What lies apart stays apart. -/
theorem Fr.apart (h : Fr F a F' w) (hG : ∀ k, G k → k < a.heap.size ∧ ¬ F k) : ∀ k, G k → k < w.heap.size ∧ ¬ F' k :=
  fun k hk => ⟨Nat.lt_of_lt_of_le (hG k hk).1 h.size, fun hf => (h.new k hf).elim (hG k hk).2 fun h1 => by have := (hG k hk).1; omega⟩
theorem Fr.keep (h : Fr F a F' w) (hG : ∀ k, G k → k < a.heap.size ∧ ¬ F k) : ∀ k, G k → w.heap[k]? = a.heap[k]? :=
  fun k hk => h.block k (hG k hk).1 (hG k hk).2
theorem Fr.blk (h : Fr F a F' w) {k : Nat} {t : TypeId} {cs : Array Value} (hk : Blk a k t cs) (hF : ¬ F k) : Blk w k t cs := (h.block k hk.lt hF).trans hk
end
section
variable {w w' : World} {B : Nat} {e : TypeId} {size n : Nat} {v : Value} {xs : List Value}
theorem Rowv.drewN (h : Rowv w B e size v n xs) (m : Nat) : Rowv (w.drewN m) B e size v n xs := h
theorem Rowv.alloc (h : Rowv w B e size v n xs) (o : Obj) : Rowv (w.alloc o) B e size v n xs := h.keepLt fun k _ hk _ => Below.heap_alloc w o k hk
theorem Rowv.far (h : Rowv w B e size v n xs) {p : Addr} (hp : v.ownBlock ≠ some p.block) (u : Value) : Rowv (w.setCell p u) B e size v n xs := h.keep fun k hk => Below.heap_setCell w p u k fun e => hp (by rw [hk, e])
theorem Rowv.grown (h : Rowv w B e size v n xs) {row : Option Nat} (hg : w.grownBy w' row) (hne : ∀ k, v.ownBlock = some k → some k ≠ row) : Rowv w' B e size v n xs := h.keepLt fun k _ hk hv => hg.block k hk (hne k hv)
theorem Rowv.ne_ (h : Rowv w B e size v n xs) {t' : TypeId} {k : Nat} {cs : Array Value} (hb : Blk w k t' cs) (hne : t' ≠ e) : v.ownBlock ≠ some k := by
  rcases h.2 with ⟨rfl, _⟩ | ⟨g, off, cap, cur, rfl, h2, h3, _⟩
  · exact fun h => nomatch h
  · intro hk
    obtain rfl : g = k := by simpa [Value.ownBlock] using hk
    unfold Blk at hb
    rw [hb] at h3
    injection h3 with h3
    injection h3 with _ h4
    exact hne h4
end
theorem cell_alloc_ {w : World} {p : Addr} {v : Value} {o : Obj} (h : w.cell? p = some v) : (w.alloc o).cell? p = some v := by
  have hlt : p.block < w.heap.size := Nat.lt_of_not_le fun hh => by
    unfold World.cell? at h
    rw [Array.getElem?_eq_none hh] at h
    cases h
  exact (Below.cell ((Below.refl w.heap.size w).alloc (Nat.le_refl _) o) hlt).trans h
theorem grown_cell {w w' : World} {row : Option Nat} {p : Addr} {v : Value} (hg : w.grownBy w' row) (hne : some p.block ≠ row) (h : w.cell? p = some v) : w'.cell? p = some v := hg.cell h hne
theorem grown_undrew {w w' : World} {row : Option Nat} {n : Nat} (h : (w.drewN n).grownBy w' row) : w.grownBy w' row := ⟨h.os, h.tape, h.output, h.size, h.block⟩
theorem grown_drew_ {w w' : World} {row : Option Nat} {n : Nat} (h : w.grownBy w' row) : w.grownBy (w'.drewN n) row := ⟨h.os, h.tape, h.output, h.size, h.block⟩
theorem drewN_drewN (w : World) (n m : Nat) : (w.drewN n).drewN m = w.drewN (n + m) := by simp [World.drewN, Nat.add_assoc]
theorem below_drewNs {B : Nat} {w w' : World} (h : Below B w w') (n : Nat) : Below B w (w'.drewN n) := ⟨h.os, h.tape, h.output, h.size, h.block⟩
theorem drewN_heap (w : World) (n : Nat) : (w.drewN n).heap = w.heap := rfl
end Go.Proofs.Ytloiadhdkgkjkaa
