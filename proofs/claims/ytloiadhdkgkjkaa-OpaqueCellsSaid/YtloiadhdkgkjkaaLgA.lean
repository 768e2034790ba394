/- Rows of structs that the call has made. -/
import Derived.Test.YtloiadhdkgkjkaaWl
namespace Go.Proofs.Ytloiadhdkgkjkaa
open Go.RowKit
set_option linter.unusedVariables false
set_option linter.unusedSimpArgs false

section
variable {α : Type}
theorem flat_len {sz : Nat} {enc : α → List Value} (henc : ∀ x, (enc x).length = sz) : ∀ (l : List α), (l.flatMap enc).length = l.length * sz
  | [] => by simp
  | x :: l => by rw [List.flatMap_cons, List.length_append, flat_len henc l, henc, List.length_cons, Nat.add_mul]; omega
theorem flat_take {sz : Nat} {enc : α → List Value} (henc : ∀ x, (enc x).length = sz) : ∀ (l : List α) (m : Nat), (l.take m).flatMap enc = (l.flatMap enc).take (m * sz)
  | [], m => by simp
  | x :: l, 0 => by simp
  | x :: l, m + 1 => by
    have e : (m + 1) * sz = m * sz + sz := by rw [Nat.add_mul, Nat.one_mul]
    rw [List.take_succ_cons, List.flatMap_cons, List.flatMap_cons, flat_take henc l m, List.take_append, henc, e, List.take_of_length_le (l := enc x) (by rw [henc]; omega), Nat.add_sub_cancel]
theorem flat_get {sz : Nat} {enc : α → List Value} (henc : ∀ x, (enc x).length = sz) : ∀ (l : List α) (i j : Nat) (hi : i < l.length), j < sz → (l.flatMap enc)[i * sz + j]? = (enc (l[i]'hi))[j]?
  | x :: l, 0, j, hi, hj => by
    rw [List.flatMap_cons, Nat.zero_mul, Nat.zero_add, List.getElem?_append_left (by rw [henc]; omega)]
    rfl
  | x :: l, i + 1, j, hi, hj => by
    rw [List.flatMap_cons, List.getElem?_append_right (by rw [henc, Nat.add_mul]; omega), henc, show (i + 1) * sz + j - sz = i * sz + j by rw [Nat.add_mul]; omega, flat_get henc l i j (by simpa using hi) hj]
    rfl
theorem flat_set {sz : Nat} {enc : α → List Value} (henc : ∀ x, (enc x).length = sz) {l : List α} {i j : Nat} {u : Value} {x' : α} (hi : i < l.length) (hj : j < sz) (hx : enc x' = (enc (l[i]'hi)).set j u) :
    (l.set i x').flatMap enc = (l.flatMap enc).set (i * sz + j) u := by
  apply List.ext_getElem?
  intro k
  rw [List.getElem?_set]
  rcases Nat.lt_or_ge k (l.length * sz) with hk | hk
  · have hsz : 0 < sz := by omega
    have e : k = k / sz * sz + k % sz := by rw [Nat.mul_comm]; exact (Nat.div_add_mod k sz).symm
    have hq : k / sz < l.length := Nat.div_lt_of_lt_mul (by rw [Nat.mul_comm]; exact hk)
    have hr := Nat.mod_lt k hsz
    generalize k / sz = q at *
    generalize k % sz = r at *
    rw [e, flat_get henc _ q r (by simpa using hq) hr, flat_get henc l q r hq hr]
    by_cases hqi : q = i
    · subst hqi
      simp only [List.getElem_set_self]
      rw [hx, List.getElem?_set]
      by_cases hrj : r = j
      · subst hrj
        rw [if_pos rfl, if_pos rfl, if_pos (by rw [henc]; exact hr), if_pos (by rw [flat_len henc]; exact e ▸ hk)]
      · rw [if_neg (fun h => hrj h.symm), if_neg (by omega)]
    · simp only [List.getElem_set_ne (fun h => hqi h.symm)]
      have hne : i * sz + j ≠ q * sz + r := fun h => hqi (by
        have h1 : (i * sz + j) / sz = i := by rw [Nat.mul_comm, Nat.mul_add_div hsz, Nat.div_eq_of_lt hj, Nat.add_zero]
        have h2 : (q * sz + r) / sz = q := by rw [Nat.mul_comm, Nat.mul_add_div hsz, Nat.div_eq_of_lt hr, Nat.add_zero]
        rw [← h1, ← h2, h])
      rw [if_neg hne]
  · have h2 : i * sz + j < l.length * sz := by
      have : (i + 1) * sz ≤ l.length * sz := Nat.mul_le_mul_right _ hi
      rw [Nat.add_mul] at this
      omega
    rw [if_neg (by omega), List.getElem?_eq_none (by rw [flat_len henc, List.length_set]; exact hk), List.getElem?_eq_none (by rw [flat_len henc]; exact hk)]

/-- The slice v has the elements l, spelled by enc, in a block of its own. -/
def Sl (e : TypeId) (sz : Nat) (enc : α → List Value) (w : World) (v : Value) (l : List α) : Prop := Rowv w 0 e sz v l.length (l.flatMap enc)
variable {e : TypeId} {sz : Nat} {enc : α → List Value} {w w' : World} {v : Value} {l : List α} {G G' : Nat → Prop}
theorem Sl.nil (w : World) : Sl e sz enc w (.slice none 0 0) ([] : List α) := Rowv.nil _ _ _ _
theorem Sl.shape (h : Sl e sz enc w v l) : ∃ A cap, v = .slice A l.length cap ∧ l.length ≤ cap := by
  obtain ⟨A, cap, h1, h2, _⟩ := Rowv.shape h
  exact ⟨A, cap, h1, h2⟩
theorem Sl.lt (h : Sl e sz enc w v l) : ∀ k, own v k → k < w.heap.size := fun k hk => (Rowv.lt h hk).2
theorem Sl.keep (h : Sl e sz enc w v l) (hk : ∀ k, own v k → w'.heap[k]? = w.heap[k]?) : Sl e sz enc w' v l := Rowv.keep h hk
theorem Sl.fr (h : Sl e sz enc w v l) (hf : Fr G w G' w') (hG : ∀ k, own v k → ¬ G k) : Sl e sz enc w' v l := h.keep fun k hk => hf.block k (h.lt k hk) (hG k hk)
theorem Sl.alloc (h : Sl e sz enc w v l) (o : Obj) : Sl e sz enc (w.alloc o) v l := Rowv.alloc h o
theorem Sl.drewN (h : Sl e sz enc w v l) (n : Nat) : Sl e sz enc (w.drewN n) v l := h
theorem Sl.set (h : Sl e sz enc w v l) {p : Addr} (hp : ¬ own v p.block) (u : Value) : Sl e sz enc (w.setCell p u) v l := Rowv.far h hp u
theorem Sl.ne_ (h : Sl e sz enc w v l) {k : Nat} {t : TypeId} {cs : Array Value} (hb : Blk w k t cs) (hne : t ≠ e) : ¬ own v k := Rowv.ne_ h hb hne
theorem Sl.ofBlk (h : Sl e sz enc w v l) {k : Nat} (hk : own v k) : ∃ cs, Blk w k e cs := by
  rcases h.2 with ⟨rfl, _⟩ | ⟨g, off, cap, cur, rfl, _, h3, _⟩
  · exact absurd hk (by simp [own, Value.ownBlock])
  · have e : g = k := by simpa [own, Value.ownBlock] using hk
    subst e
    exact ⟨cur, h3⟩
theorem Sl.cut (henc : ∀ x, (enc x).length = sz) {A : Option Addr} {cap n : Nat} (h : Sl e sz enc w (.slice A n cap) l) {m c : Nat} (hm : m ≤ l.length) (hmc : m ≤ c) (hc : c ≤ cap) : Sl e sz enc w (.slice A m c) (l.take m) := by
  obtain ⟨A', cap', e1, _⟩ := h.shape
  injection e1 with e1 e2 e3
  subst e1 e2 e3
  have := Rowv.cut h hm hmc hc
  unfold Sl
  rw [flat_take henc, List.length_take, Nat.min_eq_left hm]
  exact this
theorem Sl.cell (henc : ∀ x, (enc x).length = sz) {A : Option Addr} {n cap : Nat} (hsz : 0 < sz) (h : Sl e sz enc w (.slice A n cap) l) {i : Nat} (hi : i < l.length) :
    ∃ g off, A = some ⟨g, off, none⟩ ∧ g < w.heap.size ∧ ∀ i (hi : i < l.length) j, j < sz → w.cell? ⟨g, off + (i * sz + j), none⟩ = (enc (l[i]'hi))[j]? ∧ w.frozen? ⟨g, off + (i * sz + j), none⟩ = false := by
  have hpos : 0 < l.length := by omega
  obtain ⟨g, off, cap', e1, _, hlt, _, hc⟩ := Rowv.at_ h hpos
  injection e1 with e1
  refine ⟨g, off, e1, hlt, fun i hi j hj => ?_⟩
  have hb : i * sz + j < l.length * sz := by
    have : (i + 1) * sz ≤ l.length * sz := Nat.mul_le_mul_right _ hi
    rw [Nat.add_mul] at this
    omega
  obtain ⟨k1, k2⟩ := hc (i * sz + j) hb
  exact ⟨k1.trans (flat_get henc l i j hi hj), k2⟩
theorem Sl.upd (henc : ∀ x, (enc x).length = sz) {g off n cap : Nat} (h : Sl e sz enc w (.slice (some ⟨g, off, none⟩) n cap) l) {i j : Nat} (hi : i < l.length) (hj : j < sz) (u : Value) (x' : α) (hx : enc x' = (enc (l[i]'hi)).set j u) :
    Sl e sz enc (w.setCell ⟨g, off + (i * sz + j), none⟩ u) (.slice (some ⟨g, off, none⟩) n cap) (l.set i x') := by
  have hb : i * sz + j < l.length * sz := by
    have : (i + 1) * sz ≤ l.length * sz := Nat.mul_le_mul_right _ hi
    rw [Nat.add_mul] at this
    omega
  obtain ⟨h0, h⟩ := h
  rcases h with ⟨h1, h2⟩ | ⟨g', off', cap', cur, h1, h2, h3, h4, h5, h6, h7⟩
  · cases h1
  · injection h1 with h1a h1b h1c
    simp only [Option.some.injEq, Addr.mk.injEq, and_true] at h1a
    obtain ⟨rfl, rfl⟩ := h1a
    subst h1b h1c
    unfold Sl
    rw [flat_set henc hi hj hx, List.length_set]
    refine ⟨by rw [List.length_set, h0], .inr ⟨g, off, cap, _, rfl, h2, (Blk.set_ (t := e) h3 _ _), h4, h5, by simpa using h6, ?_⟩⟩
    rw [Array.toList_setIfInBounds, ← h7]
    apply List.ext_getElem?
    intro k
    rw [List.getElem?_take, List.getElem?_drop, List.getElem?_set, List.getElem?_set, List.getElem?_take, List.getElem?_drop, List.length_take, List.length_drop]
    by_cases hk : k < l.length * sz
    · rw [if_pos hk, if_pos hk]
      by_cases hkk : i * sz + j = k
      · have hmul : l.length * sz ≤ cap * sz := Nat.mul_le_mul_right _ h4
        subst hkk
        rw [if_pos rfl, if_pos rfl, if_pos (by simp; omega), if_pos (by simp; omega)]
      · rw [if_neg hkk, if_neg (by omega)]
    · rw [if_neg hk, if_neg hk, if_neg (by omega)]
theorem Sl.src (h : Sl e sz enc w v l) (h1 : ∀ x, ∀ u ∈ enc x, u.oneCell' = true) : Src w v l.length sz (l.flatMap enc) := Rowv.src h fun u hu => by
  obtain ⟨x, _, hx⟩ := List.mem_flatMap.1 hu
  exact h1 x u hx
theorem Sl.new (henc : ∀ x, (enc x).length = sz) (w : World) (l : List α) (hl : l.length ≤ 9223372036854775807) : Sl e sz enc (w.alloc (.cells (l.flatMap enc).toArray e)) (.slice (some ⟨w.heap.size, 0, none⟩) l.length l.length) l :=
  ⟨flat_len henc l, .inr ⟨w.heap.size, 0, l.length, _, rfl, Nat.zero_le _, heap_alloc_new w _, Nat.le_refl _, by unfold maxLen; omega, by simp [flat_len henc], by
    simp only [List.drop_zero]
    exact List.take_of_length_le (by simp [flat_len henc])⟩⟩

/-- Some elements more: 'append(out, more...)'. -/
theorem wpList_all {ops : Array Oper} {rest : List Oper} {o : Oper} {a : Act} {Q : Exit → Act → World → Prop} (wr : World) (hgd : o.guard = none) (s x : Operand) (t : TypeId)
    (ho : o.op = .call { callee := .builtin .append, args := #[s, x], argTypes := #[t, t] }) {z : Value} {bytes : Nat} (hund : Try.prog.underlying t = some (.slice e))
    (hinfo : (Try.prog.info? e).map (fun i => (i.zero, i.size, i.bytes)) = some (some z, sz, bytes)) (hz : z.cells.size = sz) (hsz : 0 < sz)
    (v u : Value) (l m : List α) (hs : a.eval s = v) (hl : Sl e sz enc wr v l) (hx : a.eval x = u) (hm : Src wr u m.length sz (m.flatMap enc)) (hb1 : l.length + m.length ≤ 9223372036854775807) (hlen : (l.length + m.length) * bytes ≤ 140737488355328)
    (h : ∀ A cap w', l.length + m.length ≤ cap → Sl e sz enc w' (.slice A (l.length + m.length) cap) (l ++ m) → Fr (own v) wr (own (.slice A (l.length + m.length) cap)) w' → wpList Try.prog ops Q rest (a.put o.dst (.slice A (l.length + m.length) cap)) w') :
    wpList Try.prog ops Q (o :: rest) a wr := by
  obtain ⟨i0, hi, hz0, hz1, hz2⟩ := info_parts hinfo
  refine wpList_app _ hgd s x t ho e i0 z sz bytes hund hi hz0 hz1 hz2 hz hsz 0 v l.length _ hs hl _ m.length _ hx hm (by unfold maxLen; omega) hlen (Nat.zero_le _) ?_
  intro v' w' hrow hgr hown
  obtain ⟨A, cap, rfl, hc, _⟩ := hrow.shape
  refine h A cap w' hc ?_ ?_
  · unfold Sl
    rw [List.length_append, List.flatMap_append]
    exact hrow
  · refine ((Fr.refl (own v) wr).grown hgr (fun k hk => .inl hk)).into fun k hk => ?_
    rcases hown with e | ⟨k', e, hk'⟩
    · exact .inl (by unfold own at *; rw [← e]; exact hk)
    · unfold own at hk
      rw [hk] at e
      injection e with e
      subst e
      exact .inr (.inr hk')
/-- One element more: 'append(out, x)'. -/
theorem wpList_one (henc : ∀ x : α, (enc x).length = sz) (h1 : ∀ x : α, ∀ u ∈ enc x, u.oneCell' = true) {ops : Array Oper} {rest : List Oper} {o : Oper} {a : Act} {Q : Exit → Act → World → Prop} (wr : World) (hgd : o.guard = none) (s x : Operand) (t : TypeId)
    (ho : o.op = .call { callee := .builtin .append, args := #[s, x], argTypes := #[t, t] }) {z : Value} {bytes : Nat} (hund : Try.prog.underlying t = some (.slice e))
    (hinfo : (Try.prog.info? e).map (fun i => (i.zero, i.size, i.bytes)) = some (some z, sz, bytes)) (hz : z.cells.size = sz) (hsz : 0 < sz)
    (v : Value) (l : List α) (y : α) (hs : a.eval s = v) (hl : Sl e sz enc wr v l) (hx : a.eval x = .slice (some ⟨wr.heap.size, 0, none⟩) 1 1) (hb1 : l.length + 1 ≤ 9223372036854775807) (hlen : (l.length + 1) * bytes ≤ 140737488355328)
    (h : ∀ A cap w', l.length + 1 ≤ cap → Sl e sz enc w' (.slice A (l.length + 1) cap) (l ++ [y]) → Fr (own v) wr (own (.slice A (l.length + 1) cap)) w' → wpList Try.prog ops Q rest (a.put o.dst (.slice A (l.length + 1) cap)) w') :
    wpList Try.prog ops Q (o :: rest) a (wr.alloc (.cells (enc y).toArray e)) := by
  have hlt := hl.lt
  refine wpList_all (enc := enc) (l := l) (m := [y]) _ hgd s x t ho hund hinfo hz hsz v _ hs (hl.alloc _) hx ?_ hb1 hlen fun A cap w' hc hS hF => h A cap w' hc hS ?_
  · simp only [List.flatMap_cons, List.flatMap_nil, List.append_nil]
    exact Src.lit wr (by simp [henc]) (h1 y) 1
  · refine (Fr.trans (((Fr.refl (own v) wr).alloc _)) hF)
end
end Go.Proofs.Ytloiadhdkgkjkaa
