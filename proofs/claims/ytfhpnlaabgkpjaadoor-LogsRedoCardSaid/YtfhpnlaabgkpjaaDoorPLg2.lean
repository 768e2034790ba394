/- Rows of structs that the call has made. -/
import Derived.RangeFuncNested
import Derived.RangeFuncBound
import Derived.RangeFuncCalls
import Derived.RangeFuncLeaves
import Derived.RangeFuncWrites
import Derived.Shelf.Abstract
import Derived.Shelf.RegionOpen
import Derived.WalkKit
import Derived.OwnWalkIn
import Derived.TacticsInMore
import Derived.LoopNIn
import Derived.LoopIn
import Derived.Test.YtfhpnlaabgkpjaaDoorRows
import Derived.WalkSpells
import Derived.WalkLawsBesides
import Derived.Lib.Hide
import Derived.Shelf.Spec.TrailingZeros
import Derived.IntWalk
import Derived.Outline
import Derived.Deep.LoopGhost
import Derived.WalkMore
import Derived.ScopeJumps
import Derived.Test.YtfhpnlaabgkpjaaDoorPLg1
namespace Go.Proofs.YtfhpnlaabgkpjaaDoor
open Go.RowKit
set_option linter.unusedVariables false
set_option linter.unusedSimpArgs false

section
variable {α : Type}
theorem flat_len {sz : Nat} {enc : α → List Value} (henc : ∀ x, (enc x).length = sz) : ∀ (l : List α), (l.flatMap enc).length = l.length * sz
  | [] => by simp
  | x :: l => by rw [List.flatMap_cons, List.length_append, flat_len henc l, henc, List.length_cons, Nat.add_mul]; omega
theorem flat_take {sz : Nat} {enc : α → List Value} (henc : ∀ x, (enc x).length = sz) : ∀ (l : List α) (m : Nat), (l.take m).flatMap enc = (l.flatMap enc).take (m * sz)
  | [], m => by simp
  | x :: l, 0 => by simp
  | x :: l, m + 1 => by
    have e : (m + 1) * sz = m * sz + sz := by rw [Nat.add_mul, Nat.one_mul]
    rw [List.take_succ_cons, List.flatMap_cons, List.flatMap_cons, flat_take henc l m, List.take_append, henc, e, List.take_of_length_le (l := enc x) (by rw [henc]; omega), Nat.add_sub_cancel]
theorem flat_get {sz : Nat} {enc : α → List Value} (henc : ∀ x, (enc x).length = sz) : ∀ (l : List α) (i j : Nat) (hi : i < l.length), j < sz → (l.flatMap enc)[i * sz + j]? = (enc (l[i]'hi))[j]?
  | x :: l, 0, j, hi, hj => by
    rw [List.flatMap_cons, Nat.zero_mul, Nat.zero_add, List.getElem?_append_left (by rw [henc]; omega)]
    rfl
  | x :: l, i + 1, j, hi, hj => by
    rw [List.flatMap_cons, List.getElem?_append_right (by rw [henc, Nat.add_mul]; omega), henc, show (i + 1) * sz + j - sz = i * sz + j by rw [Nat.add_mul]; omega, flat_get henc l i j (by simpa using hi) hj]
    rfl
theorem flat_set {sz : Nat} {enc : α → List Value} (henc : ∀ x, (enc x).length = sz) {l : List α} {i j : Nat} {u : Value} {x' : α} (hi : i < l.length) (hj : j < sz) (hx : enc x' = (enc (l[i]'hi)).set j u) :
    (l.set i x').flatMap enc = (l.flatMap enc).set (i * sz + j) u := by
  apply List.ext_getElem?
  intro k
  rw [List.getElem?_set]
  rcases Nat.lt_or_ge k (l.length * sz) with hk | hk
  · have hsz : 0 < sz := by omega
    have e : k = k / sz * sz + k % sz := by rw [Nat.mul_comm]; exact (Nat.div_add_mod k sz).symm
    have hq : k / sz < l.length := Nat.div_lt_of_lt_mul (by rw [Nat.mul_comm]; exact hk)
    have hr := Nat.mod_lt k hsz
    generalize k / sz = q at *
    generalize k % sz = r at *
    rw [e, flat_get henc _ q r (by simpa using hq) hr, flat_get henc l q r hq hr]
    by_cases hqi : q = i
    · subst hqi
      simp only [List.getElem_set_self]
      rw [hx, List.getElem?_set]
      by_cases hrj : r = j
      · subst hrj
        rw [if_pos rfl, if_pos rfl, if_pos (by rw [henc]; exact hr), if_pos (by rw [flat_len henc]; exact e ▸ hk)]
      · rw [if_neg (fun h => hrj h.symm), if_neg (by omega)]
    · simp only [List.getElem_set_ne (fun h => hqi h.symm)]
      have hne : i * sz + j ≠ q * sz + r := fun h => hqi (by
        have h1 : (i * sz + j) / sz = i := by rw [Nat.mul_comm, Nat.mul_add_div hsz, Nat.div_eq_of_lt hj, Nat.add_zero]
        have h2 : (q * sz + r) / sz = q := by rw [Nat.mul_comm, Nat.mul_add_div hsz, Nat.div_eq_of_lt hr, Nat.add_zero]
        rw [← h1, ← h2, h])
      rw [if_neg hne]
  · have h2 : i * sz + j < l.length * sz := by
      have : (i + 1) * sz ≤ l.length * sz := Nat.mul_le_mul_right _ hi
      rw [Nat.add_mul] at this
      omega
    rw [if_neg (by omega), List.getElem?_eq_none (by rw [flat_len henc, List.length_set]; exact hk), List.getElem?_eq_none (by rw [flat_len henc]; exact hk)]

/-- The slice v has the elements l, spelled by enc, in a block of its own. -/
def Sl (e : TypeId) (sz : Nat) (enc : α → List Value) (w : World) (v : Value) (l : List α) : Prop := Rowv w 0 e sz v l.length (l.flatMap enc)
variable {e : TypeId} {sz : Nat} {enc : α → List Value} {w w' : World} {v : Value} {l : List α} {G G' : Nat → Prop}
theorem Sl.nil (w : World) : Sl e sz enc w (.slice none 0 0) ([] : List α) := Rowv.nil _ _ _ _
theorem Sl.shape (h : Sl e sz enc w v l) : ∃ A cap, v = .slice A l.length cap ∧ l.length ≤ cap := by
  obtain ⟨A, cap, h1, h2, _⟩ := Rowv.shape h
  exact ⟨A, cap, h1, h2⟩
theorem Sl.lt (h : Sl e sz enc w v l) : ∀ k, own v k → k < w.heap.size := fun k hk => (Rowv.lt h hk).2
theorem Sl.keep (h : Sl e sz enc w v l) (hk : ∀ k, own v k → w'.heap[k]? = w.heap[k]?) : Sl e sz enc w' v l := Rowv.keep h hk
theorem Sl.fr (h : Sl e sz enc w v l) (hf : Fr G w G' w') (hG : ∀ k, own v k → ¬ G k) : Sl e sz enc w' v l := h.keep fun k hk => hf.block k (h.lt k hk) (hG k hk)
theorem Sl.alloc (h : Sl e sz enc w v l) (o : Obj) : Sl e sz enc (w.alloc o) v l := Rowv.alloc h o
theorem Sl.drewN (h : Sl e sz enc w v l) (n : Nat) : Sl e sz enc (w.drewN n) v l := h
theorem Sl.set (h : Sl e sz enc w v l) {p : Addr} (hp : ¬ own v p.block) (u : Value) : Sl e sz enc (w.setCell p u) v l := Rowv.far h hp u
theorem Sl.ne_ (h : Sl e sz enc w v l) {k : Nat} {t : TypeId} {cs : Array Value} (hb : Blk w k t cs) (hne : t ≠ e) : ¬ own v k := Rowv.ne_ h hb hne
theorem Sl.ofBlk (h : Sl e sz enc w v l) {k : Nat} (hk : own v k) : ∃ cs, Blk w k e cs := by
  rcases h.2 with ⟨rfl, _⟩ | ⟨g, off, cap, cur, rfl, _, h3, _⟩
  · exact absurd hk (by simp [own, Value.ownBlock])
  · have e : g = k := by simpa [own, Value.ownBlock] using hk
    subst e
    exact ⟨cur, h3⟩
theorem Sl.cut (henc : ∀ x, (enc x).length = sz) {A : Option Addr} {cap n : Nat} (h : Sl e sz enc w (.slice A n cap) l) {m c : Nat} (hm : m ≤ l.length) (hmc : m ≤ c) (hc : c ≤ cap) : Sl e sz enc w (.slice A m c) (l.take m) := by
  obtain ⟨A', cap', e1, _⟩ := h.shape
  injection e1 with e1 e2 e3
  subst e1 e2 e3
  have := Rowv.cut h hm hmc hc
  unfold Sl
  rw [flat_take henc, List.length_take, Nat.min_eq_left hm]
  exact this
theorem Sl.cell (henc : ∀ x, (enc x).length = sz) {A : Option Addr} {n cap : Nat} (hsz : 0 < sz) (h : Sl e sz enc w (.slice A n cap) l) {i : Nat} (hi : i < l.length) :
    ∃ g off, A = some ⟨g, off, none⟩ ∧ g < w.heap.size ∧ ∀ i (hi : i < l.length) j, j < sz → w.cell? ⟨g, off + (i * sz + j), none⟩ = (enc (l[i]'hi))[j]? ∧ w.frozen? ⟨g, off + (i * sz + j), none⟩ = false := by
  have hpos : 0 < l.length := by omega
  obtain ⟨g, off, cap', e1, _, hlt, _, hc⟩ := Rowv.at_ h hpos
  injection e1 with e1
  refine ⟨g, off, e1, hlt, fun i hi j hj => ?_⟩
  have hb : i * sz + j < l.length * sz := by
    have : (i + 1) * sz ≤ l.length * sz := Nat.mul_le_mul_right _ hi
    rw [Nat.add_mul] at this
    omega
  obtain ⟨k1, k2⟩ := hc (i * sz + j) hb
  exact ⟨k1.trans (flat_get henc l i j hi hj), k2⟩
theorem Sl.upd (henc : ∀ x, (enc x).length = sz) {g off n cap : Nat} (h : Sl e sz enc w (.slice (some ⟨g, off, none⟩) n cap) l) {i j : Nat} (hi : i < l.length) (hj : j < sz) (u : Value) (x' : α) (hx : enc x' = (enc (l[i]'hi)).set j u) :
    Sl e sz enc (w.setCell ⟨g, off + (i * sz + j), none⟩ u) (.slice (some ⟨g, off, none⟩) n cap) (l.set i x') := by
  have hb : i * sz + j < l.length * sz := by
    have : (i + 1) * sz ≤ l.length * sz := Nat.mul_le_mul_right _ hi
    rw [Nat.add_mul] at this
    omega
  obtain ⟨h0, h⟩ := h
  rcases h with ⟨h1, h2⟩ | ⟨g', off', cap', cur, h1, h2, h3, h4, h5, h6, h7⟩
  · cases h1
  · injection h1 with h1a h1b h1c
    simp only [Option.some.injEq, Addr.mk.injEq, and_true] at h1a
    obtain ⟨rfl, rfl⟩ := h1a
    subst h1b h1c
    unfold Sl
    rw [flat_set henc hi hj hx, List.length_set]
    refine ⟨by rw [List.length_set, h0], .inr ⟨g, off, cap, _, rfl, h2, (Blk.set_ (t := e) h3 _ _), h4, h5, by simpa using h6, ?_⟩⟩
    rw [Array.toList_setIfInBounds, ← h7]
    apply List.ext_getElem?
    intro k
    rw [List.getElem?_take, List.getElem?_drop, List.getElem?_set, List.getElem?_set, List.getElem?_take, List.getElem?_drop, List.length_take, List.length_drop]
    by_cases hk : k < l.length * sz
    · rw [if_pos hk, if_pos hk]
      by_cases hkk : i * sz + j = k
      · have hmul : l.length * sz ≤ cap * sz := Nat.mul_le_mul_right _ h4
        subst hkk
        rw [if_pos rfl, if_pos rfl, if_pos (by simp; omega), if_pos (by simp; omega)]
      · rw [if_neg hkk, if_neg (by omega)]
    · rw [if_neg hk, if_neg hk, if_neg (by omega)]
theorem Sl.src (h : Sl e sz enc w v l) (h1 : ∀ x, ∀ u ∈ enc x, u.oneCell' = true) : Src w v l.length sz (l.flatMap enc) := Rowv.src h fun u hu => by
  obtain ⟨x, _, hx⟩ := List.mem_flatMap.1 hu
  exact h1 x u hx
theorem Sl.new (henc : ∀ x, (enc x).length = sz) (w : World) (l : List α) (hl : l.length ≤ 9223372036854775807) : Sl e sz enc (w.alloc (.cells (l.flatMap enc).toArray e)) (.slice (some ⟨w.heap.size, 0, none⟩) l.length l.length) l :=
  ⟨flat_len henc l, .inr ⟨w.heap.size, 0, l.length, _, rfl, Nat.zero_le _, heap_alloc_new w _, Nat.le_refl _, by unfold maxLen; omega, by simp [flat_len henc], by
    simp only [List.drop_zero]
    exact List.take_of_length_le (by simp [flat_len henc])⟩⟩

/-- Some elements more: 'append(out, more...)'. -/
theorem wpList_all {ops : Array Oper} {rest : List Oper} {o : Oper} {a : Act} {Q : Exit → Act → World → Prop} (wr : World) (hgd : o.guard = none) (s x : Operand) (t : TypeId)
    (ho : o.op = .call { callee := .builtin .append, args := #[s, x], argTypes := #[t, t] }) {z : Value} {bytes : Nat} (hund : Tryd.prog.underlying t = some (.slice e))
    (hinfo : (Tryd.prog.info? e).map (fun i => (i.zero, i.size, i.bytes)) = some (some z, sz, bytes)) (hz : z.cells.size = sz) (hsz : 0 < sz)
    (v u : Value) (l m : List α) (hs : a.eval s = v) (hl : Sl e sz enc wr v l) (hx : a.eval x = u) (hm : Src wr u m.length sz (m.flatMap enc)) (hb1 : l.length + m.length ≤ 9223372036854775807) (hlen : (l.length + m.length) * bytes ≤ 140737488355328)
    (h : ∀ A cap w', l.length + m.length ≤ cap → Sl e sz enc w' (.slice A (l.length + m.length) cap) (l ++ m) → Fr (own v) wr (own (.slice A (l.length + m.length) cap)) w' → wpList Tryd.prog ops Q rest (a.put o.dst (.slice A (l.length + m.length) cap)) w') :
    wpList Tryd.prog ops Q (o :: rest) a wr := by
  obtain ⟨i0, hi, hz0, hz1, hz2⟩ := info_parts hinfo
  refine wpList_app _ hgd s x t ho e i0 z sz bytes hund hi hz0 hz1 hz2 hz hsz 0 v l.length _ hs hl _ m.length _ hx hm (by unfold maxLen; omega) hlen (Nat.zero_le _) ?_
  intro v' w' hrow hgr hown
  obtain ⟨A, cap, rfl, hc, _⟩ := hrow.shape
  refine h A cap w' hc ?_ ?_
  · unfold Sl
    rw [List.length_append, List.flatMap_append]
    exact hrow
  · refine ((Fr.refl (own v) wr).grown hgr (fun k hk => .inl hk)).into fun k hk => ?_
    rcases hown with e | ⟨k', e, hk'⟩
    · exact .inl (by unfold own at *; rw [← e]; exact hk)
    · unfold own at hk
      rw [hk] at e
      injection e with e
      subst e
      exact .inr (.inr hk')
/-- One element more: 'append(out, x)'. -/
theorem wpList_one (henc : ∀ x : α, (enc x).length = sz) (h1 : ∀ x : α, ∀ u ∈ enc x, u.oneCell' = true) {ops : Array Oper} {rest : List Oper} {o : Oper} {a : Act} {Q : Exit → Act → World → Prop} (wr : World) (hgd : o.guard = none) (s x : Operand) (t : TypeId)
    (ho : o.op = .call { callee := .builtin .append, args := #[s, x], argTypes := #[t, t] }) {z : Value} {bytes : Nat} (hund : Tryd.prog.underlying t = some (.slice e))
    (hinfo : (Tryd.prog.info? e).map (fun i => (i.zero, i.size, i.bytes)) = some (some z, sz, bytes)) (hz : z.cells.size = sz) (hsz : 0 < sz)
    (v : Value) (l : List α) (y : α) (hs : a.eval s = v) (hl : Sl e sz enc wr v l) (hx : a.eval x = .slice (some ⟨wr.heap.size, 0, none⟩) 1 1) (hb1 : l.length + 1 ≤ 9223372036854775807) (hlen : (l.length + 1) * bytes ≤ 140737488355328)
    (h : ∀ A cap w', l.length + 1 ≤ cap → Sl e sz enc w' (.slice A (l.length + 1) cap) (l ++ [y]) → Fr (own v) wr (own (.slice A (l.length + 1) cap)) w' → wpList Tryd.prog ops Q rest (a.put o.dst (.slice A (l.length + 1) cap)) w') :
    wpList Tryd.prog ops Q (o :: rest) a (wr.alloc (.cells (enc y).toArray e)) := by
  have hlt := hl.lt
  refine wpList_all (enc := enc) (l := l) (m := [y]) _ hgd s x t ho hund hinfo hz hsz v _ hs (hl.alloc _) hx ?_ hb1 hlen fun A cap w' hc hS hF => h A cap w' hc hS ?_
  · simp only [List.flatMap_cons, List.flatMap_nil, List.append_nil]
    exact Src.lit wr (by simp [henc]) (h1 y) 1
  · refine (Fr.trans (((Fr.refl (own v) wr).alloc _)) hF)
end
end Go.Proofs.YtfhpnlaabgkpjaaDoor
/- A range over a function, in a walk without a fence. -/
namespace Go.Proofs.YtfhpnlaabgkpjaaDoor
open Go.RowKit
set_option linter.unusedVariables false

theorem wp_rangeFunc_ {P : Program} {α : Type} {g : Operand} {ps : Array Tmp} {assign body : Code} {Q : Exit → Act → World → Prop} {a : Act} {w : World}
    {gf : Nat} {lb : Array Value} (hg : a.eval g = .func (.func gf) #[] lb) (eg : ∀ args w, (callFunc gf args).run P w = .ok (.enter gf args) w)
    {encs : α → Array Value} {Kp : World → World → Prop} {S Sp : List α → Prop} {N : Nat} {w0 : World} (hseq : SeqStopsK Fence.wide 2 P gf lb encs Kp S Sp N w0)
    (hKt : ∀ {A B C : World}, Kp A B → Kp B C → Kp A C) (hKb : ∀ (W : World) (l : Nat) (o o' : Obj), w.heap.size ≤ l → W.heap[l]? = some o → o.isCells = false → o.isWalk = false → Kp W (W.putObj l o')) (hb0 : Below w0.heap.size w0 w) (hps : ∀ x, (encs x).size = ps.size)
    (I : List α → World → Prop) (Ix : Code → List α → World → Prop) (hI : OwnFrom w.heap.size I) (hIx : ∀ c, OwnFrom w.heap.size (Ix c)) (h0 : I [] w) (Ax : α → Act → World → Prop) (hAx : ∀ x a', OwnFrom w.heap.size (fun (_ : Unit) W => Ax x a' W))
    (hassign : ∀ (l : Nat) (pre : List α) (x : α) (W : World) (K : Act → World → Prop), I pre W → (∀ a' W', KeepsFrom w.heap.size W W' → Kp W W' → I pre W' → Ax x a' W' → K a' W') →
      assign.wpIn (Fence.wide.inRound l) 1 P (Exit.then K (fun _ _ _ => False)) { tmps := (ps.zip (encs x)).foldl (fun t (p, v) => t.setIfInBounds p v) a.tmps, defers := [] } W)
    (hbody : ∀ (l : Nat) (pre : List α) (x : α) (a' : Act) (W : World), w.heap.size ≤ l → (∃ r, W.heap[l]? = some (.loop r)) → I pre W → Ax x a' W → pre.length < N → body.wpIn (Fence.wide.inRound l) 1 P (ownPostG w.heap.size Kp I Ix (pre ++ [x]) W) a' W)
    (hdone : ∀ (D : Nat) (xs : List α) (W : World), w.heap.size ≤ D → S xs → I xs W → W.heap[D]? = some (.deferred (some [])) → Q .normal { a with defers := { target := .collected D, args := #[] } :: a.defers } W)
    (hstop : ∀ (D : Nat) (c : Code) (pre : List α) (W : World), w.heap.size ≤ D → Sp pre → Ix c pre W → W.heap[D]? = some (.deferred (some [])) → c.wp P Q { a with defers := { target := .collected D, args := #[] } :: a.defers } W) :
    (Code.rangeFunc g ps assign body).wp P Q a w :=
  wpIn_wide.1 (wpIn_rangeFunc_ownH (F := Fence.wide) (n := 3) rfl (by decide) hg trivial eg hseq (fun h k => hKt h k) hKb hb0 hps I Ix hI hIx h0 Ax hAx hassign hbody hdone fun D c pre W h1 h2 h3 h4 => wpIn_wide.2 (hstop D c pre W h1 h2 h3 h4))
/-- .. where the assignment lays no block: `fin` says what it sets. -/
theorem wp_rangeFunc_P {P : Program} {α : Type} {g : Operand} {ps : Array Tmp} {assign body : Code} {Q : Exit → Act → World → Prop} {a : Act} {w : World}
    {gf : Nat} {lb : Array Value} (hg : a.eval g = .func (.func gf) #[] lb) (eg : ∀ args w, (callFunc gf args).run P w = .ok (.enter gf args) w)
    {encs : α → Array Value} {Kp : World → World → Prop} {S Sp : List α → Prop} {N : Nat} {w0 : World} (hseq : SeqStopsK Fence.wide 2 P gf lb encs Kp S Sp N w0)
    (hKt : ∀ {A B C : World}, Kp A B → Kp B C → Kp A C) (hKb : ∀ (W : World) (l : Nat) (o o' : Obj), w.heap.size ≤ l → W.heap[l]? = some o → o.isCells = false → o.isWalk = false → Kp W (W.putObj l o')) (hKr : ∀ W, Kp W W) (hb0 : Below w0.heap.size w0 w) (hps : ∀ x, (encs x).size = ps.size)
    (fin : α → Array Value → Array Value) (I : List α → World → Prop) (Ix : Code → List α → World → Prop) (hI : OwnFrom w.heap.size I) (hIx : ∀ c, OwnFrom w.heap.size (Ix c)) (h0 : I [] w)
    (hassign : ∀ (l : Nat) (x : α) (W : World) (K : Act → World → Prop), (∀ a', a' = { tmps := fin x ((ps.zip (encs x)).foldl (fun t (p, v) => t.setIfInBounds p v) a.tmps), defers := [] } → K a' W) →
      assign.wpIn (Fence.wide.inRound l) 1 P (Exit.then K (fun _ _ _ => False)) { tmps := (ps.zip (encs x)).foldl (fun t (p, v) => t.setIfInBounds p v) a.tmps, defers := [] } W)
    (hbody : ∀ (l : Nat) (pre : List α) (x : α) (W : World), w.heap.size ≤ l → (∃ r, W.heap[l]? = some (.loop r)) → I pre W → pre.length < N → body.wpIn (Fence.wide.inRound l) 1 P (ownPostG w.heap.size Kp I Ix (pre ++ [x]) W) { tmps := fin x ((ps.zip (encs x)).foldl (fun t (p, v) => t.setIfInBounds p v) a.tmps), defers := [] } W)
    (hdone : ∀ (D : Nat) (xs : List α) (W : World), w.heap.size ≤ D → S xs → I xs W → W.heap[D]? = some (.deferred (some [])) → Q .normal { a with defers := { target := .collected D, args := #[] } :: a.defers } W)
    (hstop : ∀ (D : Nat) (c : Code) (pre : List α) (W : World), w.heap.size ≤ D → Sp pre → Ix c pre W → W.heap[D]? = some (.deferred (some [])) → c.wp P Q { a with defers := { target := .collected D, args := #[] } :: a.defers } W) :
    (Code.rangeFunc g ps assign body).wp P Q a w :=
  wp_rangeFunc_ hg eg hseq (fun h k => hKt h k) hKb hb0 hps I Ix hI hIx h0
    (fun x a' _ => a' = { tmps := fin x ((ps.zip (encs x)).foldl (fun t (p, v) => t.setIfInBounds p v) a.tmps), defers := [] }) (fun _ _ _ _ _ _ hs _ _ => hs)
    (fun l pre x W K hi hK => hassign l x W K fun a' e => hK a' W (KeepsFrom.refl _ _) (hKr W) hi e)
    (fun l pre x a' W hl hr hi e hlen => by subst e; exact hbody l pre x W hl hr hi hlen) hdone hstop
theorem calls_marks {P : Program} {f : FuncId} {fn : Func} {c : Code} {args : Array Value} {w : World} {R : Ending → World → Prop}
    (hf : P.funcs[f]? = some fn) (hb : fn.body = some c)
    (h : c.wp P (bodyPostM Fence.wide 3 P fn R) { tmps := args ++ Array.replicate (fn.ntmps - args.size) undef, defers := [] } w) : Calls P f args w R :=
  callsIn_wide.1 (callsIn_of_wp_marks (F := Fence.wide) (n := 3) hf hb trivial (wpIn_wide.2 h) rfl)
/-- Blocks of F are cells: what is no cells lies as it lay. -/
theorem Fr.others {F F' : Nat → Prop} {w w' : World} (h : Fr F w F' w') (hc : ∀ k o, F k → w.heap[k]? = some o → o.isCells = true) : KeepsOthers w w' :=
  ⟨h.size, fun k o hk ho => by
    by_cases e : F k
    · have := hc k o e hk
      rw [ho] at this
      cases this
    · exact (h.block k (Array.getElem?_eq_some_iff.1 hk).1 e).trans hk⟩
theorem Blk.isCells {w : World} {g : Nat} {t : TypeId} {cs : Array Value} (h : Blk w g t cs) {o : Obj} (ho : w.heap[g]? = some o) : o.isCells = true := by
  unfold Blk at h
  rw [h] at ho
  cases ho
  rfl
/-- A block of cells is not touched by the turn of one that is none. -/
theorem Blk.own {W W' : World} {row : Option Nat} {g : Nat} {t : TypeId} {cs : Array Value} (h : Blk W g t cs) (hg : W.grownBy W' row) (hr : ∀ r, row = some r → ∃ o : Obj, W.heap[r]? = some o ∧ o.isCells = false) : Blk W' g t cs :=
  h.grown hg fun e => by
    obtain ⟨o, ho, hc⟩ := hr g e.symm
    have := Blk.isCells h ho
    rw [hc] at this
    cases this
theorem Blk.ownFrom {W W' : World} {row : Option Nat} {B g : Nat} {t : TypeId} {cs : Array Value} (h : Blk W g t cs) (hg : W.grownBy W' row) (hr : ∀ r, row = some r → B ≤ r ∧ ∃ o : Obj, W.heap[r]? = some o ∧ o.isCells = false) : Blk W' g t cs :=
  h.own hg fun r e => (hr r e).2
theorem Fr.ownFrom {F F' : Nat → Prop} {w W W' : World} {row : Option Nat} {B : Nat} (h : Fr F w F' W) (hB : w.heap.size ≤ B) (hg : W.grownBy W' row) (hr : ∀ r, row = some r → B ≤ r ∧ ∃ o : Obj, W.heap[r]? = some o ∧ o.isCells = false) : Fr F w F' W' :=
  h.grown hg fun k e => .inr (.inr (by have := (hr k e).1; omega))
/-- The block of the deferred calls is shut. -/
theorem Blk.shut {W : World} {g D : Nat} {t : TypeId} {cs : Array Value} {o : Obj} {c : Option (List Deferred)} (h : Blk W g t cs) (hK : W.heap[D]? = some (.deferred c)) : Blk (W.putObj D o) g t cs :=
  h.grown (grownBy_putObj' W D o) fun e => by
    cases e
    unfold Blk at h
    rw [h] at hK
    cases hK
theorem Fr.shut {F F' : Nat → Prop} {w W : World} {D : Nat} (h : Fr F w F' W) (hD : w.heap.size ≤ D) (o : Obj) : Fr F w F' (W.putObj D o) :=
  h.grown (grownBy_putObj' W D o) fun k e => by cases e; exact .inr (.inr hD)
end Go.Proofs.YtfhpnlaabgkpjaaDoor
/- Trailing zeros, and a key's home, by contract. -/
namespace Go.Proofs.YtfhpnlaabgkpjaaDoor
open Go.RowKit
set_option maxHeartbeats 2000000
set_option linter.unusedVariables false
set_option linter.unusedSimpArgs false

/-- The library's table lies in its variable. -/
def Tab (w : World) : Prop := TabAt 1 Lib.deBruijn64tab w
theorem tz64_core (x k idx : Nat) (w : World) (hx0 : ((x : Int) == 0) = false)
    (key : IntKind.u64.wrap (bits BinOp.and IntKind.u64 (x : Int) (IntKind.u64.wrap (-(x : Int))) * 285870213051353865) / 288230376151711744 = (idx : Int))
    (hi : idx < 64) (hk : k < 64) (hcell : w.cell? ⟨1, idx, none⟩ = some (.int .u8 k)) :
    Calls Tryd.prog 66 #[.int .u64 x] w fun e w' => e = .returned (.int .i64 k) ∧ w = w' := by
  go_enter Tryd.func66, Tryd.ntmps66
  go_wp2_with (simp only [key])
  go_ret
  exact ⟨rfl, rfl⟩
theorem tz64_b {x : Nat} {w : World} (hx : x < 18446744073709551616) (hx0 : x ≠ 0) (hT : Tab w) : Calls Tryd.prog 66 #[.int .u64 x] w fun e w' => e = .returned (.int .i64 (Lib.ctz 64 x)) ∧ w = w' := by
  obtain ⟨hlow, hk⟩ := Lib.lowest_bit 64 x hx0 hx
  obtain ⟨hi, htab⟩ := Lib.deBruijn64_at _ hk
  have hcell := hT _ hi
  rw [htab] at hcell
  exact tz64_core x _ _ w (by simp; omega) (tz64_key x _ hx hx0 hlow) hi hk hcell
theorem tz_b {x : Nat} {w : World} (hx : x < 18446744073709551616) (hx0 : x ≠ 0) (hT : Tab w) : Calls Tryd.prog 64 #[.int .u64 x] w fun e w' => e = .returned (.int .i64 (Lib.ctz 64 x)) ∧ w = w' := by
  have h := Lib.hid (tz64_b hx hx0 hT)
  have hw : IntKind.u64.wrap (x : Int) = (x : Int) := by rw [IntKind.wrap_u64]; omega
  clear hT
  go_enter Tryd.func64, Tryd.ntmps64
  go_wp2_with fail
  refine h.out.mono ?_
  rintro _ w2 ⟨rfl, rfl⟩
  go_wp2
  go_ret
  exact ⟨rfl, rfl⟩
end Go.Proofs.YtfhpnlaabgkpjaaDoor
/- A key's home, by contract. -/
namespace Go.Proofs.YtfhpnlaabgkpjaaDoor
open Go.RowKit
set_option maxHeartbeats 2000000
set_option linter.unusedVariables false
set_option linter.unusedSimpArgs false

theorem ctz_pow : ∀ k, k < 64 → Lib.ctz 64 (2 ^ k) = k := by decide
/-- a key's home among 2^k slots -/
def homeOf (key : Int) (k : Nat) : Int := IntKind.u64.wrap (key * 11400714819323198485) / 2 ^ (64 - k)
theorem homeOf_bd (key : Int) {k : Nat} (h1 : 1 ≤ k) (h2 : k ≤ 62) : 0 ≤ homeOf key k ∧ homeOf key k < 2 ^ k := by
  unfold homeOf
  have h0 : 0 ≤ IntKind.u64.wrap (key * 11400714819323198485) ∧ IntKind.u64.wrap (key * 11400714819323198485) < 18446744073709551616 := by rw [IntKind.wrap_u64]; omega
  generalize IntKind.u64.wrap (key * 11400714819323198485) = h at *
  have hp : (0 : Int) < 2 ^ (64 - k) := Int.pow_pos (by decide)
  refine ⟨Int.ediv_nonneg h0.1 (Int.le_of_lt hp), Int.ediv_lt_of_lt_mul hp ?_⟩
  rw [← Int.pow_add]
  rw [show k + (64 - k) = 64 by omega]
  omega
theorem home_b {key : Int} {k : Nat} {w : World} (h1 : 1 ≤ k) (h2 : k ≤ 62) (hT : Tab w) : Calls Tryd.prog 57 #[.int .u64 key, .int .i64 ((2 ^ k : Nat) : Int)] w fun e w' => e = .returned (.int .i64 (homeOf key k)) ∧ w = w' := by
  have hp : 2 ^ k < 18446744073709551616 := Nat.lt_of_le_of_lt (Nat.pow_le_pow_right (by omega) h2) (by decide)
  have hp0 : 2 ^ k ≠ 0 := by have := Nat.two_pow_pos k; omega
  have C := tz_b hp hp0 hT
  rw [ctz_pow k (by omega)] at C
  have C := Lib.hid C
  have hbd := homeOf_bd key h1 h2
  have hq : (2 : Int) ^ k ≤ 4611686018427387904 := by
    have : 2 ^ k ≤ 2 ^ 62 := Nat.pow_le_pow_right (by omega) h2
    have h3 : ((2 ^ k : Nat) : Int) ≤ ((2 ^ 62 : Nat) : Int) := by omega
    simpa using h3
  have hwr : wrap64 (IntKind.u64.wrap (key * 11400714819323198485) / 2 ^ (64 - k)) = IntKind.u64.wrap (key * 11400714819323198485) / 2 ^ (64 - k) := by
    show wrap64 (homeOf key k) = homeOf key k
    exact IntWalk.wrap64_in _ (by omega)
  have hwx : IntKind.u64.wrap ((2 ^ k : Nat) : Int) = ((2 ^ k : Nat) : Int) := by
    generalize 2 ^ k = sl at *
    rw [IntKind.wrap_u64]; omega
  have hk1 : (1 : Int) ≤ k := by omega
  have hk2 : (k : Int) ≤ 62 := by omega
  clear hp hp0 hT hbd hq
  generalize 2 ^ k = sl at *
  go_enter Tryd.func57, Tryd.ntmps57
  go_wp2_with fail
  refine C.out.mono ?_
  rintro _ w2 ⟨rfl, rfl⟩
  go_wp2
  go_ret
  refine ⟨?_, rfl⟩
  show Ending.returned (.int .i64 (wrap64 (IntKind.u64.wrap (key * 11400714819323198485) / 2 ^ (64 - k)))) = _
  first | (rw [hwr]; rfl) | rfl
end Go.Proofs.YtfhpnlaabgkpjaaDoor
/- Home, by the program and by the document, by contract. -/
namespace Go.Proofs.YtfhpnlaabgkpjaaDoor
open Go.RowKit
set_option maxHeartbeats 2000000
set_option linter.unusedVariables false
set_option linter.unusedSimpArgs false

theorem pow_of_and : ∀ (n s : Nat), s ≤ n → 0 < s → s &&& (s - 1) = 0 → ∃ k, s = 2 ^ k
  | 0, s, h, h0, _ => by omega
  | n + 1, s, h, h0, ha => by
    have hd : s / 2 &&& (s - 1) / 2 = 0 := by rw [← Nat.and_div_two, ha]
    by_cases he : s % 2 = 0
    · have e : (s - 1) / 2 = s / 2 - 1 := by omega
      rw [e] at hd
      obtain ⟨k, hk⟩ := pow_of_and n (s / 2) (by omega) (by omega) hd
      exact ⟨k + 1, by rw [Nat.pow_succ]; omega⟩
    · have e : (s - 1) / 2 = s / 2 := by omega
      rw [e, Nat.and_self] at hd
      exact ⟨0, by simp; omega⟩
theorem and_of_pow (k : Nat) : 2 ^ k &&& (2 ^ k - 1) = 0 := by rw [Nat.and_two_pow_sub_one_eq_mod, Nat.mod_self]
theorem bits_and_i64_nat (a b : Nat) (ha : a < 9223372036854775808) (hb : b < 9223372036854775808) : bits .and .i64 (a : Int) (b : Int) = ((a &&& b : Nat) : Int) := by
  have hx : a &&& b < 2 ^ 63 := Nat.and_lt_two_pow _ (by omega)
  have h1 : (BitVec.ofInt 64 (a : Int)).toNat = a := by
    rw [BitVec.ofInt_natCast, BitVec.toNat_ofNat]; exact Nat.mod_eq_of_lt (by omega)
  have h2 : (BitVec.ofInt 64 (b : Int)).toNat = b := by
    rw [BitVec.ofInt_natCast, BitVec.toNat_ofNat]; exact Nat.mod_eq_of_lt (by omega)
  show IntKind.i64.wrap ((BitVec.ofInt 64 (a : Int) &&& BitVec.ofInt 64 (b : Int)).toNat : Int) = _
  rw [BitVec.toNat_and, h1, h2]
  exact IntWalk.i64_in _ (by omega)
/-- a number of slots -/
def isSlots (s : Int) (k : Nat) : Prop := 3 ≤ k ∧ k ≤ 62 ∧ s = ((2 ^ k : Nat) : Int)
end Go.Proofs.YtfhpnlaabgkpjaaDoor
/- A key's slot: plain. -/
namespace Go.Proofs.YtfhpnlaabgkpjaaDoor
open Go.RowKit
set_option maxHeartbeats 4000000
set_option linter.unusedVariables false
set_option linter.unusedSimpArgs false

/-- the way from slot i on: slot and number asked; U: used, K: key -/
def lgo (U : Nat → Bool) (K : Nat → Int) (key : Int) (sl : Nat) : Nat → Nat → Nat → Option (Nat × Nat)
  | 0, _, _ => none
  | f + 1, i, n => if (U i && K i != key) = true then lgo U K key sl f ((i + 1) % sl) (n + 1) else some (i, n)
/-- cells of sl slots of three cells -/
def SlotsAt (w : World) (g sl : Nat) (U : Nat → Bool) (K : Nat → Int) : Prop :=
  ∀ i, i < sl → w.cell? ⟨g, i * 3, none⟩ = some (.bool (U i)) ∧ w.cell? ⟨g, i * 3 + 1, none⟩ = some (.int .u64 (K i))
def intOf : Value → Int | .int _ q => q | _ => 0
theorem bit_next {k i : Nat} (hk : k ≤ 62) (hi : i < 2 ^ k) : bits .and .i64 ((i : Int) + 1) (((2 ^ k : Nat) : Int) - 1) = (((i + 1) % 2 ^ k : Nat) : Int) := by
  have hq : 2 ^ k ≤ 2 ^ 62 := Nat.pow_le_pow_right (by omega) hk
  have h0 := Nat.two_pow_pos k
  have h := bits_and_i64_nat (i + 1) (2 ^ k - 1) (by omega) (by omega)
  rw [Nat.and_two_pow_sub_one_eq_mod] at h
  rw [← h]
  congr 1
  omega
end Go.Proofs.YtfhpnlaabgkpjaaDoor
/- Open addressing, plain: the walk of a look ends; what put, growing and taking leave. -/
namespace Go.Proofs.YtfhpnlaabgkpjaaDoor
set_option linter.unusedVariables false

/-- e lies on the way from h to j, j itself not counted (in a circle) -/
def onp (h j e : Nat) : Prop := if h ≤ j then h ≤ e ∧ e < j else h ≤ e ∨ e < j
def dst (n i j : Nat) : Nat := if i ≤ j then j - i else j + n - i
theorem nx {n i : Nat} (hi : i < n) : (i + 1) % n = if i + 1 = n then 0 else i + 1 := by
  split
  · subst_vars; simp
  · exact Nat.mod_eq_of_lt (by omega)
theorem sub_len {α : Type} [DecidableEq α] : ∀ (a b : List α), a.Nodup → (∀ x ∈ a, x ∈ b) → a.length ≤ b.length
  | [], _, _, _ => by simp
  | x :: a, b, h, hs => by
    rw [List.nodup_cons] at h
    have hx := hs x (by simp)
    have hp := List.length_pos_of_mem hx
    have := sub_len a (b.erase x) h.2 fun y hy => (List.mem_erase_of_ne (by rintro rfl; exact h.1 hy)).2 (hs y (by simp [hy]))
    rw [List.length_erase_of_mem hx] at this
    simp
    omega
theorem nodup_of_inj {α : Type} (f : Nat → α) : ∀ (d : Nat), (∀ a b, a < d → b < d → f a = f b → a = b) → ((List.range d).map f).Nodup := fun d h => by
  rw [List.Nodup, List.pairwise_map]
  refine List.Pairwise.imp_of_mem ?_ (List.nodup_range (n := d))
  intro a b ha hb hab e
  exact hab (h a b (List.mem_range.1 ha) (List.mem_range.1 hb) e)

/-- A table: slots, their keys, the keys in the order of coming. -/
structure TInv (n : Nat) (hm : Int → Nat) (U : Nat → Bool) (K : Nat → Int) (l : List Int) : Prop where
  path : ∀ j, j < n → U j = true → ∀ e, e < n → onp (hm (K j)) j e → U e = true
  uniq : ∀ i j, i < n → j < n → U i = true → U j = true → K i = K j → i = j
  keys : ∀ x, x ∈ l ↔ ∃ j, j < n ∧ U j = true ∧ K j = x
  nodup : l.Nodup
  room : l.length < n
section
variable {n : Nat} {hm : Int → Nat} {U : Nat → Bool} {K : Nat → Int} {l : List Int}
theorem TInv.free (h : TInv n hm U K l) : ∃ z, z < n ∧ U z = false := by
  apply Classical.byContradiction
  intro hn
  have hall : ∀ z, z < n → U z = true := fun z hz => by
    cases hu : U z with
    | true => rfl
    | false => exact (hn ⟨z, hz, hu⟩).elim
  have h1 := nodup_of_inj K n fun a b ha hb e => h.uniq a b ha hb (hall a ha) (hall b hb) e
  have h2 := sub_len _ l h1 fun x hx => by
    obtain ⟨j, hj, rfl⟩ := List.mem_map.1 hx
    exact (h.keys _).2 ⟨j, List.mem_range.1 hj, hall j (List.mem_range.1 hj), rfl⟩
  simp at h2
  have := h.room
  omega
/-- The first slot from i on that is free. -/
theorem first_free {U : Nat → Bool} {n : Nat} : ∀ (d i z : Nat), i < n → z < n → dst n i z = d → U z = false → ∃ j, j < n ∧ U j = false ∧ ∀ e, e < n → onp i j e → U e = true
  | 0, i, z, hi, hz, hd, hu => ⟨i, hi, by obtain rfl : i = z := by unfold dst at hd; split at hd <;> omega
                                          exact hu, fun e he hp => by unfold onp at hp; simp at hp; omega⟩
  | d + 1, i, z, hi, hz, hd, hu => by
    cases hui : U i with
    | false => exact ⟨i, hi, hui, fun e he hp => by unfold onp at hp; simp at hp; omega⟩
    | true =>
      obtain ⟨j, hj, huj, hp⟩ := first_free d ((i + 1) % n) z (Nat.mod_lt _ (by omega)) hz (by rw [nx hi]; unfold dst at *; split <;> (split at hd <;> split <;> omega)) hu
      refine ⟨j, hj, huj, fun e he hpe => ?_⟩
      by_cases hei : e = i
      · rw [hei]; exact hui
      · refine hp e he ?_
        have hij : i ≠ j := by rintro rfl; rw [hui] at huj; cases huj
        rw [nx hi]
        unfold onp at *
        split at hpe <;> (split <;> (split <;> omega))
theorem lgo_ends {key : Int} : ∀ (d i j fuel m : Nat), i < n → j < n → dst n i j = d → d < fuel → (∀ e, e < n → onp i j e → U e = true ∧ K e ≠ key) → (U j = false ∨ K j = key) → lgo U K key n fuel i m = some (j, m + d)
  | 0, i, j, 0, m, _, _, _, h, _, _ => by omega
  | 0, i, j, fuel + 1, m, hi, hj, hd, _, hp, hs => by
    obtain rfl : i = j := by unfold dst at hd; split at hd <;> omega
    rw [lgo, if_neg]
    · rfl
    · rcases hs with hs | hs <;> simp [hs]
  | d + 1, i, j, 0, m, _, _, _, h, _, _ => by omega
  | d + 1, i, j, fuel + 1, m, hi, hj, hd, hf, hp, hs => by
    have hij : i ≠ j := by rintro rfl; unfold dst at hd; simp at hd
    obtain ⟨h1, h2⟩ := hp i hi (by unfold onp; split <;> omega)
    rw [lgo, if_pos (by simp [h1, h2]), lgo_ends d ((i + 1) % n) j fuel (m + 1) (Nat.mod_lt _ (by omega)) hj (by rw [nx hi]; unfold dst at *; split <;> (split at hd <;> split <;> omega)) (by omega) ?_ hs]
    · rw [show m + 1 + d = m + (d + 1) by omega]
    · intro e he hpe
      refine hp e he ?_
      rw [nx hi] at hpe
      unfold onp at *
      split at hpe <;> (split at hpe <;> (split <;> omega))
theorem dst_lt {i j : Nat} (hi : i < n) (hj : j < n) : dst n i j < n := by unfold dst; split <;> omega
/-- The slots on a way are as many as it is long: no more than there are keys. -/
theorem TInv.short (h : TInv n hm U K l) {i j : Nat} (hi : i < n) (hj : j < n) (hp : ∀ e, e < n → onp i j e → U e = true) : dst n i j ≤ l.length := by
  have hn : 0 < n := by omega
  have hs : ∀ a, a < dst n i j → (i + a) % n = if i + a < n then i + a else i + a - n := fun a ha => by
    have := dst_lt hi hj
    split
    · exact Nat.mod_eq_of_lt ‹_›
    · rw [Nat.mod_eq_sub_mod (by omega), Nat.mod_eq_of_lt (by omega)]
  have hu : ∀ a, a < dst n i j → U ((i + a) % n) = true := fun a ha => by
    refine hp _ (Nat.mod_lt _ hn) ?_
    rw [hs a ha]
    unfold onp
    unfold dst at ha
    split at ha <;> (split <;> (split <;> omega))
  have h1 := nodup_of_inj (fun a => K ((i + a) % n)) (dst n i j) fun a b ha hb e => by
    have e := h.uniq _ _ (Nat.mod_lt _ hn) (Nat.mod_lt _ hn) (hu a ha) (hu b hb) e
    rw [hs a ha, hs b hb] at e
    have := dst_lt hi hj
    split at e <;> (split at e <;> omega)
  have h2 := sub_len _ l h1 fun x hx => by
    obtain ⟨a, ha, rfl⟩ := List.mem_map.1 hx
    exact (h.keys _).2 ⟨_, Nat.mod_lt _ hn, hu a (List.mem_range.1 ha), rfl⟩
  simpa using h2
theorem TInv.look_in (h : TInv n hm U K l) (hb : ∀ x, hm x < n) {key : Int} (hk : key ∈ l) {fuel : Nat} (hf : n ≤ fuel) :
    ∃ j, j < n ∧ U j = true ∧ K j = key ∧ ∃ d, d < l.length + 1 ∧ lgo U K key n fuel (hm key) 1 = some (j, 1 + d) := by
  obtain ⟨j, hj, hu, hkj⟩ := (h.keys key).1 hk
  have hp : ∀ e, e < n → onp (hm key) j e → U e = true := fun e he ho => h.path j hj hu e he (by rw [hkj]; exact ho)
  refine ⟨j, hj, hu, hkj, dst n (hm key) j, by have := h.short (hb key) hj hp; omega, lgo_ends _ _ j fuel 1 (hb key) hj rfl (by have := dst_lt (hb key) hj; omega) (fun e he ho => ⟨hp e he ho, fun e1 => ?_⟩) (.inr hkj)⟩
  have := h.uniq e j he hj (hp e he ho) hu (e1.trans hkj.symm)
  subst this
  unfold onp at ho
  split at ho <;> omega
theorem TInv.look_out (h : TInv n hm U K l) (hb : ∀ x, hm x < n) {key : Int} (hk : key ∉ l) {fuel : Nat} (hf : n ≤ fuel) :
    ∃ j, j < n ∧ U j = false ∧ (∀ e, e < n → onp (hm key) j e → U e = true) ∧ ∃ d, d < l.length + 1 ∧ lgo U K key n fuel (hm key) 1 = some (j, 1 + d) := by
  obtain ⟨z, hz, huz⟩ := h.free
  obtain ⟨j, hj, hu, hp⟩ := first_free _ (hm key) z (hb key) hz rfl huz
  refine ⟨j, hj, hu, hp, dst n (hm key) j, by have := h.short (hb key) hj hp; omega, lgo_ends _ _ j fuel 1 (hb key) hj rfl (by have := dst_lt (hb key) hj; omega) (fun e he ho => ⟨hp e he ho, fun e1 => ?_⟩) (.inl hu)⟩
  exact hk ((h.keys key).2 ⟨e, he, hp e he ho, e1⟩)
theorem TInv.put (h : TInv n hm U K l) {key : Int} (hk : key ∉ l) {j : Nat} (hj : j < n) (hu : U j = false) (hp : ∀ e, e < n → onp (hm key) j e → U e = true) (hr : l.length + 1 < n) :
    TInv n hm (fun i => if i = j then true else U i) (fun i => if i = j then key else K i) (l ++ [key]) where
  path := fun i hi hui e he ho => by
    by_cases hej : e = j
    · simp [hej]
    · simp only [if_neg hej]
      by_cases hij : i = j
      · subst hij
        simp only [if_true] at ho
        exact hp e he ho
      · simp only [if_neg hij] at hui ho
        exact h.path i hi hui e he ho
  uniq := fun a b ha hb hua hub e => by
    by_cases haj : a = j <;> by_cases hbj : b = j
    · omega
    · simp only [if_pos haj, if_neg hbj] at e hub
      exact (hk ((h.keys key).2 ⟨b, hb, hub, e.symm⟩)).elim
    · simp only [if_pos hbj, if_neg haj] at e hua
      exact (hk ((h.keys key).2 ⟨a, ha, hua, e⟩)).elim
    · simp only [if_neg hbj, if_neg haj] at e hua hub
      exact h.uniq a b ha hb hua hub e
  keys := fun x => by
    rw [List.mem_append, List.mem_singleton, h.keys]
    constructor
    · rintro (⟨i, hi, hui, rfl⟩ | rfl)
      · have hij : i ≠ j := by rintro rfl; rw [hu] at hui; cases hui
        exact ⟨i, hi, by simp [hij, hui], by simp [hij]⟩
      · exact ⟨j, hj, by simp, by simp⟩
    · rintro ⟨i, hi, hui, rfl⟩
      by_cases hij : i = j
      · right; simp [hij]
      · left; simp only [if_neg hij] at hui ⊢; exact ⟨i, hi, hui, rfl⟩
  nodup := by
    rw [List.nodup_append]
    refine ⟨h.nodup, by simp, ?_⟩
    intro a ha b hb e
    rw [List.mem_singleton] at hb
    exact hk (by rw [← hb, ← e]; exact ha)
  room := by simpa using hr
end
end Go.Proofs.YtfhpnlaabgkpjaaDoor
/- A key's slot, by contract (a table of int). -/
namespace Go.Proofs.YtfhpnlaabgkpjaaDoor
open Go.RowKit
set_option maxHeartbeats 4000000
set_option linter.unusedVariables false
set_option linter.unusedSimpArgs false

set_option maxRecDepth 100000 in
theorem lookI_b {t g k fuel j m cz : Nat} {key : Int} {U : Nat → Bool} {K : Nat → Int} {c1 : Value} {w : World} (hT : Tab w) (ht : Blk w t 94 #[.slice (some ⟨g, 0, none⟩) (2 ^ k : Nat) cz, c1])
    (hS : SlotsAt w g (2 ^ k) U K) (h1 : 1 ≤ k) (h2 : k ≤ 62) (hf : fuel ≤ 4611686018427387904) (hl : lgo U K key (2 ^ k) fuel (homeOf key k).toNat 1 = some (j, m)) :
    Calls Tryd.prog 54 #[.pointer (some ⟨t, 0, none⟩), .int .u64 key] w fun e w' => e = .returned (.tuple #[.int .i64 (j : Int), .int .i64 (m : Int)]) ∧ w = w' := by
  have C := home_b (key := key) h1 h2 hT
  have hbd := homeOf_bd key h1 h2
  obtain ⟨i0, hi0⟩ : ∃ i0 : Nat, homeOf key k = (i0 : Int) := ⟨(homeOf key k).toNat, by omega⟩
  have hlt0 : i0 < 2 ^ k := by
    have : ((2 ^ k : Nat) : Int) = (2 : Int) ^ k := by simp
    omega
  rw [hi0] at C hl
  have hl : lgo U K key (2 ^ k) fuel i0 1 = some (j, m) := hl
  have C := Lib.hid C
  have hbit := fun i => bit_next (k := k) (i := i) h2
  have hq : 2 ^ k ≤ 2 ^ 62 := Nat.pow_le_pow_right (by omega) h2
  have hq0 := Nat.two_pow_pos k
  have d0 : w.cell? ⟨t, 0, none⟩ = some (.slice (some ⟨g, 0, none⟩) (2 ^ k : Nat) cz) := by rw [Blk.cell ht]; rfl
  clear hT ht h1 h2 hbd hi0
  generalize 2 ^ k = sl at *
  have hS := Lib.hid hS
  have hbit := Lib.hid hbit
  go_enter Tryd.func54, Tryd.ntmps54
  go_wp2
  refine wp_scope_jumps 0 (fun a' w' => w' = w ∧ ∃ (f i n : Nat) (u8 u9 u10 u11 u12 u13 u14 u15 u16 u17 u18 u19 u20 u21 u22 u23 u24 u25 u26 u27 u28 u29 u30 u31 u32 u33 u34 u35 u36 u37 u38 u39 u40 u41 u42 u43 u44 u45 u46 : Value), a' = { tmps := #[.pointer (some ⟨t, 0, none⟩), .int .u64 key, undef, undef, .int .i64 0, .int .i64 0, .int .i64 (i : Int), .int .i64 (n : Int), u8, u9, u10, u11, u12, u13, u14, u15, u16, u17, u18, u19, u20, u21, u22, u23, u24, u25, u26, u27, u28, u29, u30, u31, u32, u33, u34, u35, u36, u37, u38, u39, u40, u41, u42, u43, u44, u45, u46], defers := [] } ∧ n + f = fuel + 1 ∧ i < sl ∧ lgo U K key sl f i n = some (j, m)) (fun a' _ => fuel + 1 - (intOf (a'.tmps.getD 7 undef)).toNat) rfl ?_ ?_
  · obtain ⟨i, hi0, hi⟩ : ∃ i, i = i0 ∧ i < sl := ⟨i0, rfl, hlt0⟩
    subst hi0
    obtain ⟨f, hff⟩ : ∃ f, f = fuel := ⟨_, rfl⟩
    obtain ⟨n, hnn⟩ : ∃ n, n = 1 := ⟨_, rfl⟩
    have hfn : n + f = fuel + 1 := by omega
    rw [← hff, ← hnn] at hl
    have hlg := hl
    clear hff hl hlt0
    subst hnn
    obtain ⟨f, rfl⟩ : ∃ f', f = f' + 1 := by
      cases f with
      | zero => simp [lgo] at hlg
      | succ f => exact ⟨f, rfl⟩
    obtain ⟨dU, dK⟩ := hS.out i hi
    have hb := hbit.out i hi
    have hi' : (i : Int) ≤ 4611686018427387903 := by omega
    have hn' : (1 : Int) ≤ 4611686018427387904 := by omega
    have hz : decide (i < sl) = true := decide_eq_true hi
    have hsl : (sl : Int) ≤ 4611686018427387904 := by omega
    rw [lgo] at hlg
    by_cases hp : (U i && K i != key) = true
    · rw [if_pos hp] at hlg
      simp only [Bool.and_eq_true] at hp
      obtain ⟨hu, hk⟩ := hp
      rw [hu] at dU
      have hlg := Lib.hid hlg
      go_wp2_with fail
      refine C.out.mono ?_
      rintro _ w2 ⟨rfl, rfl⟩
      go_wp2
      go_step3
      go_wp2
      go_step3
      rw [show ((i : Int) + 1) % (sl : Int) = (((i + 1) % sl : Nat) : Int) by simp]
      exact ⟨rfl, ⟨rfl, f, (i + 1) % sl, 1 + 1, _, _, _, _, _, _, _, _, _, _, _, _, _, _, _, _, _, _, _, _, _, _, _, _, _, _, _, _, _, _, _, _, _, _, _, _, _, _, _, rfl, by omega, Nat.mod_lt _ hq0, hlg.out⟩⟩
    · rw [if_neg hp] at hlg
      simp only [Option.some.injEq, Prod.mk.injEq] at hlg
      obtain ⟨rfl, rfl⟩ := hlg
      by_cases hu : U i = true
      · rw [hu] at dU
        have hk : (K i != key) = false := by rw [hu] at hp; simpa using hp
        go_wp2_with fail
        refine C.out.mono ?_
        rintro _ w2 ⟨rfl, rfl⟩
        go_wp2
        go_step3
        go_wp2
        simp only [Exit.jump]
        go_ret2
        exact ⟨rfl, rfl⟩
      · have hu : U i = false := by simpa using hu
        rw [hu] at dU
        go_wp2_with fail
        refine C.out.mono ?_
        rintro _ w2 ⟨rfl, rfl⟩
        go_wp2
        go_step3
        go_wp2
        simp only [Exit.jump]
        go_ret2
        exact ⟨rfl, rfl⟩
  · rintro a' w' ⟨rfl, f, i, n, u8, u9, u10, u11, u12, u13, u14, u15, u16, u17, u18, u19, u20, u21, u22, u23, u24, u25, u26, u27, u28, u29, u30, u31, u32, u33, u34, u35, u36, u37, u38, u39, u40, u41, u42, u43, u44, u45, u46, rfl, hfn, hi, hlg⟩
    obtain ⟨f, rfl⟩ : ∃ f', f = f' + 1 := by
      cases f with
      | zero => simp [lgo] at hlg
      | succ f => exact ⟨f, rfl⟩
    obtain ⟨dU, dK⟩ := hS.out i hi
    have hb := hbit.out i hi
    have hi' : (i : Int) ≤ 4611686018427387903 := by omega
    have hn' : (n : Int) ≤ 4611686018427387904 := by omega
    have hz : decide (i < sl) = true := decide_eq_true hi
    have hsl : (sl : Int) ≤ 4611686018427387904 := by omega
    rw [lgo] at hlg
    by_cases hp : (U i && K i != key) = true
    · rw [if_pos hp] at hlg
      simp only [Bool.and_eq_true] at hp
      obtain ⟨hu, hk⟩ := hp
      rw [hu] at dU
      have hlg := Lib.hid hlg
      go_wp2
      go_step3
      rw [show ((i : Int) + 1) % (sl : Int) = (((i + 1) % sl : Nat) : Int) by simp, show (n : Int) + 1 = ((n + 1 : Nat) : Int) by simp]
      refine ⟨rfl, ⟨rfl, f, (i + 1) % sl, n + 1, _, _, _, _, _, _, _, _, _, _, _, _, _, _, _, _, _, _, _, _, _, _, _, _, _, _, _, _, _, _, _, _, _, _, _, _, _, _, _, rfl, by omega, Nat.mod_lt _ hq0, hlg.out⟩, ?_⟩
      simp [intOf]
      omega
    · rw [if_neg hp] at hlg
      simp only [Option.some.injEq, Prod.mk.injEq] at hlg
      obtain ⟨rfl, rfl⟩ := hlg
      by_cases hu : U i = true
      · rw [hu] at dU
        have hk : (K i != key) = false := by rw [hu] at hp; simpa using hp
        go_wp2
        simp only [Exit.jump]
        go_ret2
        exact ⟨rfl, rfl⟩
      · have hu : U i = false := by simpa using hu
        rw [hu] at dU
        go_wp2
        simp only [Exit.jump]
        go_ret2
        exact ⟨rfl, rfl⟩
end Go.Proofs.YtfhpnlaabgkpjaaDoor
