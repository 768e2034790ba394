/- Lists of words that a call has made: kept, one word more; two lists compared. -/
import Derived.Deep.QuietTactic
import Derived.BigQuiet
import Derived.Deep.LoopGhost
import Derived.WalkMore
import Derived.IntWalk
import Derived.Deep.DeepMust
import Derived.Deep.DeepCutAuto
import Derived.Test.YteoebfjhadmnbaaPSt1
namespace Go.Proofs.Yteoebfjhadmnbaa
open Go.RowKit
set_option maxHeartbeats 2000000
set_option linter.unusedVariables false

/-- the block of a slice -/
def own (v : Value) : Nat → Prop := fun k => v.ownBlock = some k
theorem own_len {A : Option Addr} {n c n' c' k : Nat} (h : own (.slice A n c) k) : own (.slice A n' c') k := by cases A <;> exact h
theorem u64_info : (Try.prog.info? 24).map (fun i => (i.zero, i.size, i.bytes)) = some (some (.int .u64 0), 1, 8) := by kernel_rfl
def u64s (l : List Int) : List Value := l.map (Value.int .u64)
theorem u64s_one (l : List Int) : ∀ u ∈ u64s l, u.oneCell' = true := by
  intro u hu
  obtain ⟨y, _, rfl⟩ := List.mem_map.1 hu
  rfl
/-- The slice v has the words l, in a block of its own. -/
def Wl (w : World) (v : Value) (l : List Int) : Prop := Rowv w 0 24 1 v l.length (u64s l)
section
variable {w w' : World} {v : Value} {l : List Int} {G G' : Nat → Prop}
theorem Wl.nil (w : World) : Wl w (.slice none 0 0) [] := Rowv.nil _ _ _ _
theorem Wl.shape (h : Wl w v l) : ∃ A cap, v = .slice A l.length cap ∧ l.length ≤ cap := by
  obtain ⟨A, cap, h1, h2, _⟩ := Rowv.shape h
  exact ⟨A, cap, h1, h2⟩
theorem Wl.lt (h : Wl w v l) : ∀ k, own v k → k < w.heap.size := fun k hk => (Rowv.lt h hk).2
theorem Wl.keep (h : Wl w v l) (hk : ∀ k, own v k → w'.heap[k]? = w.heap[k]?) : Wl w' v l := Rowv.keep h hk
theorem Wl.fr (h : Wl w v l) (hf : Fr G w G' w') (hG : ∀ k, own v k → ¬ G k) : Wl w' v l := h.keep fun k hk => hf.block k (h.lt k hk) (hG k hk)
theorem Wl.alloc (h : Wl w v l) (o : Obj) : Wl (w.alloc o) v l := Rowv.alloc h o
theorem Wl.drewN (h : Wl w v l) (n : Nat) : Wl (w.drewN n) v l := h
theorem Wl.set (h : Wl w v l) {p : Addr} (hp : ¬ own v p.block) (u : Value) : Wl (w.setCell p u) v l := Rowv.far h hp u
theorem Wl.new (w : World) (l : List Int) (hl : l.length ≤ 9223372036854775807) : Wl (w.alloc (.cells (u64s l).toArray 24)) (.slice (some ⟨w.heap.size, 0, none⟩) l.length l.length) l :=
  ⟨by simp [u64s], .inr ⟨w.heap.size, 0, l.length, _, rfl, Nat.zero_le _, heap_alloc_new w _, Nat.le_refl _, by unfold maxLen; omega, by simp [u64s], by
    simp only [List.drop_zero]
    exact List.take_of_length_le (by simp [u64s])⟩⟩
end

/-- One word more: 'append(out, x)'. -/
theorem wpList_word {ops : Array Oper} {rest : List Oper} {o : Oper} {a : Act} {Q : Exit → Act → World → Prop} (wr : World) (hgd : o.guard = none) (s x : Operand)
    (ho : o.op = .call { callee := .builtin .append, args := #[s, x], argTypes := #[58, 58] })
    (v : Value) (l : List Int) (y : Int) (hs : a.eval s = v) (hl : Wl wr v l)
    (hx : a.eval x = .slice (some ⟨wr.heap.size, 0, none⟩) 1 1) (hlen : (l.length + 1) * 8 ≤ 140737488355328)
    (h : ∀ A cap w', l.length + 1 ≤ cap → Wl w' (.slice A (l.length + 1) cap) (l ++ [y]) → Fr (own v) wr (own (.slice A (l.length + 1) cap)) w' → wpList Try.prog ops Q rest (a.put o.dst (.slice A (l.length + 1) cap)) w') :
    wpList Try.prog ops Q (o :: rest) a (wr.alloc (.cells #[.int .u64 y] 24)) := by
  obtain ⟨i0, hi, hz0, hz1, hz2⟩ := info_parts u64_info
  refine wpList_app _ hgd s x 58 ho 24 i0 (.int .u64 0) 1 8 Try.underlying58 hi hz0 hz1 hz2 rfl (by decide) 0 v l.length (u64s l) hs (Rowv.alloc hl _) _ 1 [.int .u64 y] hx
    (Src.lit wr (vs := [.int .u64 y]) rfl (by simp [Value.oneCell']) 1) (by unfold maxLen; omega) (by omega) (Nat.zero_le _) ?_
  intro v' w' hrow hgr hown
  obtain ⟨A, cap, rfl, hc, _⟩ := hrow.shape
  refine h A cap w' hc ?_ ?_
  · unfold Wl
    rw [show (l ++ [y]).length = l.length + 1 by simp, show u64s (l ++ [y]) = u64s l ++ [.int .u64 y] by simp [u64s]]
    exact hrow
  · refine ((((Fr.refl (own v) wr).alloc _).grown hgr (fun k hk => .inl hk))).into fun k hk => ?_
    rcases hown with e | ⟨k', e, hk'⟩
    · exact .inl (by unfold own at *; rw [← e]; exact hk)
    · unfold own at hk
      rw [hk] at e
      injection e with e
      subst e
      exact .inr (.inr (by simp at hk'; omega))

/-- 'make([]uint64, n)' -/
theorem wpList_zeros {ops : Array Oper} {rest : List Oper} {o : Oper} {a : Act} {Q : Exit → Act → World → Prop} (wr : World) (hgd : o.guard = none) (l c : Operand) (ho : o.op = Op.makeSlice 58 l c)
    (kl kc : IntKind) (L C : Int) (n : Nat) (hl : a.eval l = .int kl L) (hc : a.eval c = .int kc C) (hL : L = (n : Int)) (hC : C = (n : Int)) (hn : n ≤ 1099511627776)
    (h : ∀ w', Wl w' (.slice (some ⟨wr.heap.size, 0, none⟩) n n) (List.replicate n 0) → Below wr.heap.size wr w' → wpList Try.prog ops Q rest (a.put o.dst (.slice (some ⟨wr.heap.size, 0, none⟩) n n)) w') :
    wpList Try.prog ops Q (o :: rest) a wr := by
  obtain ⟨i0, hi, hz0, hz1, hz2⟩ := info_parts u64_info
  refine wpList_make_full wr hgd l c 58 ho wr.heap.size 24 i0 (.int .u64 0) 1 Try.underlying58 hi hz0 hz1 kl kc L C n hl hc hL hC (by rw [hz2]; omega) (by unfold maxLen; omega) (Nat.le_refl _) ?_
  intro w' hr hg
  refine h w' ?_ ((Below.refl wr.heap.size wr).grown hg (Nat.le_refl _) (by intro k hk; cases hk))
  have e : (madeCells (Value.cells (.int .u64 0)) (n * 1)).toList = u64s (List.replicate n (0 : Int)) := by
    unfold u64s
    simp only [Value.cells, Nat.mul_one]
    apply List.ext_getElem
    · simp [size_madeCells]
    · intro i h1 h2
      simp [madeCells, Nat.mod_one]
  rw [e] at hr
  have hr' := Rowv.of_own hr
  unfold Wl
  simpa using hr'.base (B' := 0) (fun _ _ => Nat.zero_le _)
/-- the block of a list that begins at its block's head -/
theorem Wl.blk {w : World} {g cp : Nat} {l : List Int} (h : Wl w (.slice (some ⟨g, 0, none⟩) l.length cp) l) : ∃ cur, Blk w g 24 cur ∧ ∀ i, i < l.length → cur[i]? = some (.int .u64 (l.getD i 0)) := by
  obtain ⟨h0, h⟩ := h
  rcases h with ⟨h1, _⟩ | ⟨g', off, cap, cur, h1, h2, h3, h4, _, _, h7⟩
  · cases h1
  · injection h1 with h1a h1b h1c
    simp only [Option.some.injEq, Addr.mk.injEq, and_true] at h1a
    obtain ⟨rfl, rfl⟩ := h1a
    refine ⟨cur, h3, fun i hi => ?_⟩
    have e : ((cur.toList.drop 0).take (l.length * 1))[i]? = (u64s l)[i]? := by rw [h7]
    rw [List.drop_zero, List.getElem?_take, if_pos (by omega), Array.getElem?_toList] at e
    rw [e]
    unfold u64s
    rw [List.getElem?_map, List.getElem?_eq_getElem hi, List.getD_eq_getElem?_getD, List.getElem?_eq_getElem hi]
    rfl

/-- The slice v reads as the words l. -/
def Lies (w : World) (v : Value) (l : List Int) : Prop := ∃ A cp, v = .slice A l.length cp ∧ l.length ≤ cp ∧ (A = none → cp = 0) ∧ ∀ j, j < l.length → ∃ g o, A = some ⟨g, o, none⟩ ∧ w.cell? ⟨g, o + j, none⟩ = some (.int .u64 (l.getD j 0))
theorem Lies.drewN {w : World} {v : Value} {l : List Int} (h : Lies w v l) (n : Nat) : Lies (w.drewN n) v l := h
theorem Lies.alloc {w : World} {v : Value} {l : List Int} (h : Lies w v l) (o : Obj) : Lies (w.alloc o) v l := by
  obtain ⟨A, cp, rfl, hc, h0, h⟩ := h
  refine ⟨A, cp, rfl, hc, h0, fun j hj => ?_⟩
  obtain ⟨g, of, rfl, hcell⟩ := h j hj
  exact ⟨g, of, rfl, cell_alloc_ hcell⟩
theorem Lies.new (w : World) (l : List Int) (hl : l.length ≤ 9223372036854775807) : Lies (w.alloc (.cells (u64s l).toArray 24)) (.slice (some ⟨w.heap.size, 0, none⟩) l.length l.length) l := by
  refine ⟨_, _, rfl, Nat.le_refl _, (fun h => nomatch h), fun j hj => ⟨_, 0, rfl, ?_⟩⟩
  rw [(Blk.new w _ _).cell, List.getElem?_toArray]
  unfold u64s
  rw [Nat.zero_add, List.getElem?_map, List.getElem?_eq_getElem hj, List.getD_eq_getElem?_getD, List.getElem?_eq_getElem hj]
  rfl
theorem Wl.lies {w : World} {v : Value} {l : List Int} (h : Wl w v l) : Lies w v l := by
  obtain ⟨A, cap, rfl, hc, h0⟩ := Rowv.shape h
  refine ⟨A, cap, rfl, hc, fun h => (h0 h).2, fun j hj => ?_⟩
  obtain ⟨g, off, cap', hv, _, _, _, hcell⟩ := Rowv.at_ h (by omega)
  injection hv with h1 _ _
  obtain ⟨k1, _⟩ := hcell j (by omega)
  refine ⟨g, off, h1, k1.trans ?_⟩
  simp [u64s, List.getD_eq_getElem?_getD, hj]

theorem Lies.src {w : World} {v : Value} {l : List Int} (h : Lies w v l) : Src w v l.length 1 (u64s l) := by
  obtain ⟨A, cp, rfl, hc, h0, h⟩ := h
  cases A with
  | none =>
    obtain rfl := h0 rfl
    obtain rfl : l = [] := List.eq_nil_of_length_eq_zero (by omega)
    exact .inl ⟨rfl, rfl, rfl⟩
  | some ad =>
    refine .inr ⟨ad, cp, rfl, by simp [u64s], fun j u hj => ?_, u64s_one l⟩
    unfold u64s at hj
    rw [List.getElem?_map] at hj
    by_cases hjl : j < l.length
    · obtain ⟨g, o, e, hcell⟩ := h j hjl
      injection e with e
      subst e
      rw [Addr.add_lit, hcell]
      rw [List.getElem?_eq_getElem hjl] at hj
      injection hj with hj
      rw [← hj, List.getD_eq_getElem?_getD, List.getElem?_eq_getElem hjl]
      rfl
    · rw [List.getElem?_eq_none (by omega)] at hj; cases hj
/-- 'append(s, l...)', s the call's own. -/
theorem wpList_words {ops : Array Oper} {rest : List Oper} {o : Oper} {a : Act} {Q : Exit → Act → World → Prop} (wr : World) (hgd : o.guard = none) (s x : Operand)
    (ho : o.op = .call { callee := .builtin .append, args := #[s, x], argTypes := #[58, 58] })
    (v u : Value) (l m : List Int) (hs : a.eval s = v) (hl : Wl wr v l) (hx : a.eval x = u) (hm : Lies wr u m) (hlen : (l.length + m.length) * 8 ≤ 140737488355328)
    (h : ∀ A cap w', l.length + m.length ≤ cap → Wl w' (.slice A (l.length + m.length) cap) (l ++ m) → Fr (own v) wr (own (.slice A (l.length + m.length) cap)) w' → wpList Try.prog ops Q rest (a.put o.dst (.slice A (l.length + m.length) cap)) w') :
    wpList Try.prog ops Q (o :: rest) a wr := by
  obtain ⟨i0, hi, hz0, hz1, hz2⟩ := info_parts u64_info
  refine wpList_app _ hgd s x 58 ho 24 i0 (.int .u64 0) 1 8 Try.underlying58 hi hz0 hz1 hz2 rfl (by decide) 0 v l.length (u64s l) hs hl _ m.length (u64s m) hx hm.src (by unfold maxLen; omega) (by omega) (Nat.zero_le _) ?_
  intro v' w' hrow hgr hown
  obtain ⟨A, cap, rfl, hc, _⟩ := hrow.shape
  refine h A cap w' hc ?_ ?_
  · unfold Wl
    rw [show (l ++ m).length = l.length + m.length by simp, show u64s (l ++ m) = u64s l ++ u64s m by simp [u64s]]
    exact hrow
  · refine ((Fr.refl (own v) wr).grown hgr (fun k hk => .inl hk)).into fun k hk => ?_
    rcases hown with e | ⟨k', e, hk'⟩
    · exact .inl (by unfold own at *; rw [← e]; exact hk)
    · unfold own at hk
      rw [hk] at e
      injection e with e
      subst e
      exact .inr (.inr hk')
theorem Wl.cut {w : World} {A : Option Addr} {cap : Nat} {l m : List Int} (h : Wl w (.slice A (l.length + m.length) cap) (l ++ m)) (hc : l.length + m.length ≤ cap) : Wl w (.slice A l.length cap) l := by
  have h' : Rowv w 0 24 1 (.slice A (l.length + m.length) cap) (l.length + m.length) (u64s (l ++ m)) := by
    unfold Wl at h
    simpa using h
  have := h'.cut (m := l.length) (c := cap) (by omega) (by omega) (Nat.le_refl _)
  unfold Wl
  rw [show u64s l = (u64s (l ++ m)).take (l.length * 1) by simp [u64s]]
  exact this
theorem Lies.below {w w' : World} {v : Value} {l : List Int} (h : Lies w v l) (hb : Below w.heap.size w w') : Lies w' v l := by
  obtain ⟨A, cp, rfl, hc, h0, h⟩ := h
  refine ⟨A, cp, rfl, hc, h0, fun j hj => ?_⟩
  obtain ⟨g, of, rfl, hcell⟩ := h j hj
  have hlt : g < w.heap.size := Nat.lt_of_not_le fun hh => by
    unfold World.cell? at hcell
    rw [Array.getElem?_eq_none hh] at hcell
    cases hcell
  exact ⟨g, of, rfl, (hb.cell (p := ⟨g, of + j, none⟩) hlt).trans hcell⟩
theorem Wl.upd {w : World} {A : Option Addr} {cap : Nat} {l : List Int} (h : Wl w (.slice A l.length cap) l) {j : Nat} (hj : j < l.length) :
    ∃ g o, A = some ⟨g, o, none⟩ ∧ g < w.heap.size ∧ w.cell? ⟨g, o + j, none⟩ = some (.int .u64 (l.getD j 0)) ∧ w.frozen? ⟨g, o + j, none⟩ = false ∧
      ∀ x, Wl (w.setCell ⟨g, o + j, none⟩ (.int .u64 x)) (.slice A (l.set j x).length cap) (l.set j x) := by
  have hlt := h.lt
  obtain ⟨h0, h⟩ := h
  rcases h with ⟨h1, h2⟩ | ⟨g, off, cap', cur, h1, h2, h3, h4, h5, h6, h7⟩
  · omega
  · injection h1 with h1a h1b h1c
    subst h1a
    subst h1c
    have hc : w.cell? ⟨g, off + j, none⟩ = cur[off + j]? := by simp [World.cell?, h3]
    have e7 : ∀ i, i < l.length → cur[off + i]? = some (.int .u64 (l.getD i 0)) := fun i hi => by
      have e : ((cur.toList.drop off).take (l.length * 1))[i]? = (u64s l)[i]? := by rw [h7]
      rw [List.getElem?_take, if_pos (by omega), List.getElem?_drop, Array.getElem?_toList] at e
      rw [e]
      unfold u64s
      rw [List.getElem?_map, List.getElem?_eq_getElem hi, List.getD_eq_getElem?_getD, List.getElem?_eq_getElem hi]
      rfl
    refine ⟨g, off, rfl, hlt g rfl, hc.trans (e7 j hj), by simp [World.frozen?, h3], fun x => ⟨by simp [u64s], .inr ⟨g, off, cap, cur.setIfInBounds (off + j) (.int .u64 x), rfl, h2, ?_, by simpa using h4, h5, by simpa using h6, ?_⟩⟩⟩
    · exact (show Blk w g 24 cur from h3).set_ (off + j) (.int .u64 x)
    · apply List.ext_getElem?
      intro i
      rw [List.getElem?_take, List.getElem?_drop, Array.getElem?_toList]
      simp only [List.length_set, Nat.mul_one]
      by_cases hi : i < l.length
      · have hs : off + j < cur.size := by omega
        rw [if_pos hi, Array.getElem?_setIfInBounds]
        unfold u64s
        rw [List.map_set, List.getElem?_set]
        by_cases e : j = i
        · subst e
          simp [hs, hi]
        · rw [if_neg (by omega), if_neg e, e7 i hi, List.getElem?_map, List.getElem?_eq_getElem hi, List.getD_eq_getElem?_getD, List.getElem?_eq_getElem hi]
          rfl
      · rw [if_neg hi, List.getElem?_eq_none (by simp [u64s]; omega)]
end Go.Proofs.Yteoebfjhadmnbaa
/- Rows of structs that the call has made. -/
namespace Go.Proofs.Yteoebfjhadmnbaa
open Go.RowKit
set_option linter.unusedVariables false
set_option linter.unusedSimpArgs false

section
variable {α : Type}
theorem flat_len {sz : Nat} {enc : α → List Value} (henc : ∀ x, (enc x).length = sz) : ∀ (l : List α), (l.flatMap enc).length = l.length * sz
  | [] => by simp
  | x :: l => by rw [List.flatMap_cons, List.length_append, flat_len henc l, henc, List.length_cons, Nat.add_mul]; omega
theorem flat_take {sz : Nat} {enc : α → List Value} (henc : ∀ x, (enc x).length = sz) : ∀ (l : List α) (m : Nat), (l.take m).flatMap enc = (l.flatMap enc).take (m * sz)
  | [], m => by simp
  | x :: l, 0 => by simp
  | x :: l, m + 1 => by
    have e : (m + 1) * sz = m * sz + sz := by rw [Nat.add_mul, Nat.one_mul]
    rw [List.take_succ_cons, List.flatMap_cons, List.flatMap_cons, flat_take henc l m, List.take_append, henc, e, List.take_of_length_le (l := enc x) (by rw [henc]; omega), Nat.add_sub_cancel]
theorem flat_get {sz : Nat} {enc : α → List Value} (henc : ∀ x, (enc x).length = sz) : ∀ (l : List α) (i j : Nat) (hi : i < l.length), j < sz → (l.flatMap enc)[i * sz + j]? = (enc (l[i]'hi))[j]?
  | x :: l, 0, j, hi, hj => by
    rw [List.flatMap_cons, Nat.zero_mul, Nat.zero_add, List.getElem?_append_left (by rw [henc]; omega)]
    rfl
  | x :: l, i + 1, j, hi, hj => by
    rw [List.flatMap_cons, List.getElem?_append_right (by rw [henc, Nat.add_mul]; omega), henc, show (i + 1) * sz + j - sz = i * sz + j by rw [Nat.add_mul]; omega, flat_get henc l i j (by simpa using hi) hj]
    rfl
theorem flat_set {sz : Nat} {enc : α → List Value} (henc : ∀ x, (enc x).length = sz) {l : List α} {i j : Nat} {u : Value} {x' : α} (hi : i < l.length) (hj : j < sz) (hx : enc x' = (enc (l[i]'hi)).set j u) :
    (l.set i x').flatMap enc = (l.flatMap enc).set (i * sz + j) u := by
  apply List.ext_getElem?
  intro k
  rw [List.getElem?_set]
  rcases Nat.lt_or_ge k (l.length * sz) with hk | hk
  · have hsz : 0 < sz := by omega
    have e : k = k / sz * sz + k % sz := by rw [Nat.mul_comm]; exact (Nat.div_add_mod k sz).symm
    have hq : k / sz < l.length := Nat.div_lt_of_lt_mul (by rw [Nat.mul_comm]; exact hk)
    have hr := Nat.mod_lt k hsz
    generalize k / sz = q at *
    generalize k % sz = r at *
    rw [e, flat_get henc _ q r (by simpa using hq) hr, flat_get henc l q r hq hr]
    by_cases hqi : q = i
    · subst hqi
      simp only [List.getElem_set_self]
      rw [hx, List.getElem?_set]
      by_cases hrj : r = j
      · subst hrj
        rw [if_pos rfl, if_pos rfl, if_pos (by rw [henc]; exact hr), if_pos (by rw [flat_len henc]; exact e ▸ hk)]
      · rw [if_neg (fun h => hrj h.symm), if_neg (by omega)]
    · simp only [List.getElem_set_ne (fun h => hqi h.symm)]
      have hne : i * sz + j ≠ q * sz + r := fun h => hqi (by
        have h1 : (i * sz + j) / sz = i := by rw [Nat.mul_comm, Nat.mul_add_div hsz, Nat.div_eq_of_lt hj, Nat.add_zero]
        have h2 : (q * sz + r) / sz = q := by rw [Nat.mul_comm, Nat.mul_add_div hsz, Nat.div_eq_of_lt hr, Nat.add_zero]
        rw [← h1, ← h2, h])
      rw [if_neg hne]
  · have h2 : i * sz + j < l.length * sz := by
      have : (i + 1) * sz ≤ l.length * sz := Nat.mul_le_mul_right _ hi
      rw [Nat.add_mul] at this
      omega
    rw [if_neg (by omega), List.getElem?_eq_none (by rw [flat_len henc, List.length_set]; exact hk), List.getElem?_eq_none (by rw [flat_len henc]; exact hk)]

/-- The slice v has the elements l, spelled by enc, in a block of its own. -/
def Sl (e : TypeId) (sz : Nat) (enc : α → List Value) (w : World) (v : Value) (l : List α) : Prop := Rowv w 0 e sz v l.length (l.flatMap enc)
variable {e : TypeId} {sz : Nat} {enc : α → List Value} {w w' : World} {v : Value} {l : List α} {G G' : Nat → Prop}
theorem Sl.nil (w : World) : Sl e sz enc w (.slice none 0 0) ([] : List α) := Rowv.nil _ _ _ _
theorem Sl.shape (h : Sl e sz enc w v l) : ∃ A cap, v = .slice A l.length cap ∧ l.length ≤ cap := by
  obtain ⟨A, cap, h1, h2, _⟩ := Rowv.shape h
  exact ⟨A, cap, h1, h2⟩
theorem Sl.lt (h : Sl e sz enc w v l) : ∀ k, own v k → k < w.heap.size := fun k hk => (Rowv.lt h hk).2
theorem Sl.keep (h : Sl e sz enc w v l) (hk : ∀ k, own v k → w'.heap[k]? = w.heap[k]?) : Sl e sz enc w' v l := Rowv.keep h hk
theorem Sl.fr (h : Sl e sz enc w v l) (hf : Fr G w G' w') (hG : ∀ k, own v k → ¬ G k) : Sl e sz enc w' v l := h.keep fun k hk => hf.block k (h.lt k hk) (hG k hk)
theorem Sl.alloc (h : Sl e sz enc w v l) (o : Obj) : Sl e sz enc (w.alloc o) v l := Rowv.alloc h o
theorem Sl.drewN (h : Sl e sz enc w v l) (n : Nat) : Sl e sz enc (w.drewN n) v l := h
theorem Sl.set (h : Sl e sz enc w v l) {p : Addr} (hp : ¬ own v p.block) (u : Value) : Sl e sz enc (w.setCell p u) v l := Rowv.far h hp u
theorem Sl.ne_ (h : Sl e sz enc w v l) {k : Nat} {t : TypeId} {cs : Array Value} (hb : Blk w k t cs) (hne : t ≠ e) : ¬ own v k := Rowv.ne_ h hb hne
theorem Sl.ofBlk (h : Sl e sz enc w v l) {k : Nat} (hk : own v k) : ∃ cs, Blk w k e cs := by
  rcases h.2 with ⟨rfl, _⟩ | ⟨g, off, cap, cur, rfl, _, h3, _⟩
  · exact absurd hk (by simp [own, Value.ownBlock])
  · have e : g = k := by simpa [own, Value.ownBlock] using hk
    subst e
    exact ⟨cur, h3⟩
theorem Sl.cut (henc : ∀ x, (enc x).length = sz) {A : Option Addr} {cap n : Nat} (h : Sl e sz enc w (.slice A n cap) l) {m c : Nat} (hm : m ≤ l.length) (hmc : m ≤ c) (hc : c ≤ cap) : Sl e sz enc w (.slice A m c) (l.take m) := by
  obtain ⟨A', cap', e1, _⟩ := h.shape
  injection e1 with e1 e2 e3
  subst e1 e2 e3
  have := Rowv.cut h hm hmc hc
  unfold Sl
  rw [flat_take henc, List.length_take, Nat.min_eq_left hm]
  exact this
theorem Sl.cell (henc : ∀ x, (enc x).length = sz) {A : Option Addr} {n cap : Nat} (hsz : 0 < sz) (h : Sl e sz enc w (.slice A n cap) l) {i : Nat} (hi : i < l.length) :
    ∃ g off, A = some ⟨g, off, none⟩ ∧ g < w.heap.size ∧ ∀ i (hi : i < l.length) j, j < sz → w.cell? ⟨g, off + (i * sz + j), none⟩ = (enc (l[i]'hi))[j]? ∧ w.frozen? ⟨g, off + (i * sz + j), none⟩ = false := by
  have hpos : 0 < l.length := by omega
  obtain ⟨g, off, cap', e1, _, hlt, _, hc⟩ := Rowv.at_ h hpos
  injection e1 with e1
  refine ⟨g, off, e1, hlt, fun i hi j hj => ?_⟩
  have hb : i * sz + j < l.length * sz := by
    have : (i + 1) * sz ≤ l.length * sz := Nat.mul_le_mul_right _ hi
    rw [Nat.add_mul] at this
    omega
  obtain ⟨k1, k2⟩ := hc (i * sz + j) hb
  exact ⟨k1.trans (flat_get henc l i j hi hj), k2⟩
theorem Sl.upd (henc : ∀ x, (enc x).length = sz) {g off n cap : Nat} (h : Sl e sz enc w (.slice (some ⟨g, off, none⟩) n cap) l) {i j : Nat} (hi : i < l.length) (hj : j < sz) (u : Value) (x' : α) (hx : enc x' = (enc (l[i]'hi)).set j u) :
    Sl e sz enc (w.setCell ⟨g, off + (i * sz + j), none⟩ u) (.slice (some ⟨g, off, none⟩) n cap) (l.set i x') := by
  have hb : i * sz + j < l.length * sz := by
    have : (i + 1) * sz ≤ l.length * sz := Nat.mul_le_mul_right _ hi
    rw [Nat.add_mul] at this
    omega
  obtain ⟨h0, h⟩ := h
  rcases h with ⟨h1, h2⟩ | ⟨g', off', cap', cur, h1, h2, h3, h4, h5, h6, h7⟩
  · cases h1
  · injection h1 with h1a h1b h1c
    simp only [Option.some.injEq, Addr.mk.injEq, and_true] at h1a
    obtain ⟨rfl, rfl⟩ := h1a
    subst h1b h1c
    unfold Sl
    rw [flat_set henc hi hj hx, List.length_set]
    refine ⟨by rw [List.length_set, h0], .inr ⟨g, off, cap, _, rfl, h2, (Blk.set_ (t := e) h3 _ _), h4, h5, by simpa using h6, ?_⟩⟩
    rw [Array.toList_setIfInBounds, ← h7]
    apply List.ext_getElem?
    intro k
    rw [List.getElem?_take, List.getElem?_drop, List.getElem?_set, List.getElem?_set, List.getElem?_take, List.getElem?_drop, List.length_take, List.length_drop]
    by_cases hk : k < l.length * sz
    · rw [if_pos hk, if_pos hk]
      by_cases hkk : i * sz + j = k
      · have hmul : l.length * sz ≤ cap * sz := Nat.mul_le_mul_right _ h4
        subst hkk
        rw [if_pos rfl, if_pos rfl, if_pos (by simp; omega), if_pos (by simp; omega)]
      · rw [if_neg hkk, if_neg (by omega)]
    · rw [if_neg hk, if_neg hk, if_neg (by omega)]
theorem Sl.src (h : Sl e sz enc w v l) (h1 : ∀ x, ∀ u ∈ enc x, u.oneCell' = true) : Src w v l.length sz (l.flatMap enc) := Rowv.src h fun u hu => by
  obtain ⟨x, _, hx⟩ := List.mem_flatMap.1 hu
  exact h1 x u hx
theorem Sl.new (henc : ∀ x, (enc x).length = sz) (w : World) (l : List α) (hl : l.length ≤ 9223372036854775807) : Sl e sz enc (w.alloc (.cells (l.flatMap enc).toArray e)) (.slice (some ⟨w.heap.size, 0, none⟩) l.length l.length) l :=
  ⟨flat_len henc l, .inr ⟨w.heap.size, 0, l.length, _, rfl, Nat.zero_le _, heap_alloc_new w _, Nat.le_refl _, by unfold maxLen; omega, by simp [flat_len henc], by
    simp only [List.drop_zero]
    exact List.take_of_length_le (by simp [flat_len henc])⟩⟩

/-- Some elements more: 'append(out, more...)'. -/
theorem wpList_all {ops : Array Oper} {rest : List Oper} {o : Oper} {a : Act} {Q : Exit → Act → World → Prop} (wr : World) (hgd : o.guard = none) (s x : Operand) (t : TypeId)
    (ho : o.op = .call { callee := .builtin .append, args := #[s, x], argTypes := #[t, t] }) {z : Value} {bytes : Nat} (hund : Try.prog.underlying t = some (.slice e))
    (hinfo : (Try.prog.info? e).map (fun i => (i.zero, i.size, i.bytes)) = some (some z, sz, bytes)) (hz : z.cells.size = sz) (hsz : 0 < sz)
    (v u : Value) (l m : List α) (hs : a.eval s = v) (hl : Sl e sz enc wr v l) (hx : a.eval x = u) (hm : Src wr u m.length sz (m.flatMap enc)) (hb1 : l.length + m.length ≤ 9223372036854775807) (hlen : (l.length + m.length) * bytes ≤ 140737488355328)
    (h : ∀ A cap w', l.length + m.length ≤ cap → Sl e sz enc w' (.slice A (l.length + m.length) cap) (l ++ m) → Fr (own v) wr (own (.slice A (l.length + m.length) cap)) w' → wpList Try.prog ops Q rest (a.put o.dst (.slice A (l.length + m.length) cap)) w') :
    wpList Try.prog ops Q (o :: rest) a wr := by
  obtain ⟨i0, hi, hz0, hz1, hz2⟩ := info_parts hinfo
  refine wpList_app _ hgd s x t ho e i0 z sz bytes hund hi hz0 hz1 hz2 hz hsz 0 v l.length _ hs hl _ m.length _ hx hm (by unfold maxLen; omega) hlen (Nat.zero_le _) ?_
  intro v' w' hrow hgr hown
  obtain ⟨A, cap, rfl, hc, _⟩ := hrow.shape
  refine h A cap w' hc ?_ ?_
  · unfold Sl
    rw [List.length_append, List.flatMap_append]
    exact hrow
  · refine ((Fr.refl (own v) wr).grown hgr (fun k hk => .inl hk)).into fun k hk => ?_
    rcases hown with e | ⟨k', e, hk'⟩
    · exact .inl (by unfold own at *; rw [← e]; exact hk)
    · unfold own at hk
      rw [hk] at e
      injection e with e
      subst e
      exact .inr (.inr hk')
/-- One element more: 'append(out, x)'. -/
theorem wpList_one (henc : ∀ x : α, (enc x).length = sz) (h1 : ∀ x : α, ∀ u ∈ enc x, u.oneCell' = true) {ops : Array Oper} {rest : List Oper} {o : Oper} {a : Act} {Q : Exit → Act → World → Prop} (wr : World) (hgd : o.guard = none) (s x : Operand) (t : TypeId)
    (ho : o.op = .call { callee := .builtin .append, args := #[s, x], argTypes := #[t, t] }) {z : Value} {bytes : Nat} (hund : Try.prog.underlying t = some (.slice e))
    (hinfo : (Try.prog.info? e).map (fun i => (i.zero, i.size, i.bytes)) = some (some z, sz, bytes)) (hz : z.cells.size = sz) (hsz : 0 < sz)
    (v : Value) (l : List α) (y : α) (hs : a.eval s = v) (hl : Sl e sz enc wr v l) (hx : a.eval x = .slice (some ⟨wr.heap.size, 0, none⟩) 1 1) (hb1 : l.length + 1 ≤ 9223372036854775807) (hlen : (l.length + 1) * bytes ≤ 140737488355328)
    (h : ∀ A cap w', l.length + 1 ≤ cap → Sl e sz enc w' (.slice A (l.length + 1) cap) (l ++ [y]) → Fr (own v) wr (own (.slice A (l.length + 1) cap)) w' → wpList Try.prog ops Q rest (a.put o.dst (.slice A (l.length + 1) cap)) w') :
    wpList Try.prog ops Q (o :: rest) a (wr.alloc (.cells (enc y).toArray e)) := by
  have hlt := hl.lt
  refine wpList_all (enc := enc) (l := l) (m := [y]) _ hgd s x t ho hund hinfo hz hsz v _ hs (hl.alloc _) hx ?_ hb1 hlen fun A cap w' hc hS hF => h A cap w' hc hS ?_
  · simp only [List.flatMap_cons, List.flatMap_nil, List.append_nil]
    exact Src.lit wr (by simp [henc]) (h1 y) 1
  · refine (Fr.trans (((Fr.refl (own v) wr).alloc _)) hF)
end
end Go.Proofs.Yteoebfjhadmnbaa
/- stats: Abs, IsNaN, IsInf by contract; lists of floats in memory; Sum by contract (the program's and the document's). -/
namespace Go.Proofs.Yteoebfjhadmnbaa
open Go.RowKit Ieee
set_option maxHeartbeats 4000000
set_option linter.unusedVariables false
set_option linter.unusedSimpArgs false
theorem u64_clear_top (x : Int) (h0 : 0 ≤ x) (h1 : x ≤ 18446744073709551615) : bits .andNot .u64 x 9223372036854775808 = x % 9223372036854775808 := by
  obtain ⟨n, rfl⟩ := Int.eq_ofNat_of_zero_le h0
  have := u64_andNot_nat n 9223372036854775808 (by omega) (by omega)
  rw [show ((9223372036854775808 : Nat) : Int) = 9223372036854775808 from rfl] at this
  rw [this, show (18446744073709551615 - 9223372036854775808 : Nat) = 2 ^ 63 - 1 from rfl, Nat.and_two_pow_sub_one_eq_mod]
  omega
theorem abs_b (x : Nat) (h : x < 18446744073709551616) (w : World) : Calls Try.prog 45 #[.float .f64 x] w fun e w' => e = .returned (.float .f64 (absN x)) ∧ w' = w := by
  have e := u64_clear_top x (by omega) (by omega)
  have e2 : ((x : Int) % 9223372036854775808).toNat = absN x := by unfold absN; omega
  go_enter Try.func45, Try.ntmps45
  go_wp2
  go_ret
  exact ⟨by simp [e2], rfl⟩
theorem isnan_b (x : Nat) (w : World) : Calls Try.prog 47 #[.float .f64 x] w fun e w' => e = .returned (.bool (isnan x)) ∧ w' = w := by
  go_enter Try.func47, Try.ntmps47
  go_wp2
  go_ret
  exact ⟨rfl, rfl⟩
theorem isinf_b (x : Nat) (h : x < 18446744073709551616) (w : World) : Calls Try.prog 46 #[.float .f64 x, .int .i64 0] w fun e w' => e = .returned (.bool (fLt 9218868437227405311 (absN x))) ∧ w' = w := by
  go_enter Try.func46, Try.ntmps46
  go_wp2_with (go_at_call 45; refine (abs_b x h _).mono ?_; rintro e _ ⟨rfl, rfl⟩)
  go_ret
  exact ⟨rfl, rfl⟩
/-- a list of floats lies in memory -/
def LiesF (w : World) (v : Value) (l : List Nat) : Prop := ∃ A cp, v = .slice A l.length cp ∧ l.length ≤ cp ∧ (A = none → cp = 0) ∧ (∀ x ∈ l, x < 18446744073709551616) ∧ ∀ j, j < l.length → ∃ g o, A = some ⟨g, o, none⟩ ∧ w.cell? ⟨g, o + j, none⟩ = some (.float .f64 (l.getD j 0))
theorem LiesF.drewN {w : World} {v : Value} {l : List Nat} (h : LiesF w v l) (n : Nat) : LiesF (w.drewN n) v l := h
theorem LiesF.below {w w' : World} {v : Value} {l : List Nat} (h : LiesF w v l) (hb : Below w.heap.size w w') : LiesF w' v l := by
  obtain ⟨A, cp, rfl, hc, h0, h1, h⟩ := h
  refine ⟨A, cp, rfl, hc, h0, h1, fun j hj => ?_⟩
  obtain ⟨g, of, rfl, hcell⟩ := h j hj
  have hlt : g < w.heap.size := Nat.lt_of_not_le fun hh => by
    unfold World.cell? at hcell
    rw [Array.getElem?_eq_none hh] at hcell
    cases hcell
  exact ⟨g, of, rfl, (hb.cell (p := ⟨g, of + j, none⟩) hlt).trans hcell⟩
/-- one number more -/
def sumStep (p : Option Nat × Option Nat) (x : Option Nat) : Option Nat × Option Nat :=
  (fop .add p.1 x, fop .add p.2 (if cLt (x.map absN) (p.1.map absN) || cEq (p.1.map absN) (x.map absN) then fop .add (fop .sub p.1 (fop .add p.1 x)) x else fop .add (fop .sub x (fop .add p.1 x)) p.1))
def sumGo (l : List (Option Nat)) : Option Nat × Option Nat := l.foldl sumStep (some 0, some 0)
def sumEnd (p : Option Nat × Option Nat) : Option Nat := if cLt (some 9218868437227405311) (p.1.map absN) || p.1.isNone then p.1 else fop .add p.1 p.2
def pSum (l : List (Option Nat)) : Option Nat := sumEnd (sumGo l)
theorem sumGo_one {l : List Nat} {j : Nat} (hj : j < l.length) : sumGo ((l.take (j + 1)).map cl) = sumStep (sumGo ((l.take j).map cl)) (cl (l.getD j 0)) := by
  rw [List.take_add_one, List.getElem?_eq_getElem hj, List.getD_eq_getElem?_getD, List.getElem?_eq_getElem hj]
  simp only [sumGo, List.map_append, List.foldl_append, Option.toList_some, List.map_cons, List.map_nil, List.foldl_cons, List.foldl_nil, Option.getD_some]
theorem drew_more {w wr : World} (h : ∃ n, wr = w.drewN n) (m : Nat) : ∃ n, wr.drewN m = w.drewN n := by
  obtain ⟨n, rfl⟩ := h
  exact ⟨n + m, by rw [drewN_drewN]⟩
theorem step_cl {s c x : Nat} {W0 W1 W2 W3 : World} {p : Option Nat × Option Nat} (h : (cl s, cl c) = p) :
    ((fLt (absN x) (absN s) = false ∧ fEq (absN s) (absN x) = false) → (cl (fres .add s x W0), cl (fres .add c (fres .add (fres .sub x (fres .add s x W0) W1) s W2) W3)) = sumStep p (cl x)) ∧
    ((fLt (absN x) (absN s) = true ∨ fEq (absN s) (absN x) = true) → (cl (fres .add s x W0), cl (fres .add c (fres .add (fres .sub s (fres .add s x W0) W1) x W2) W3)) = sumStep p (cl x)) := by
  subst h
  constructor
  · rintro ⟨h1, h2⟩
    rw [fLt_cl, cl_abs, cl_abs] at h1
    rw [fEq_cl, cl_abs, cl_abs] at h2
    simp only [sumStep, cl_fres, h1, h2, Bool.or_self, Bool.false_eq_true, if_false]
  · intro h1
    rw [fLt_cl, cl_abs, cl_abs, fEq_cl, cl_abs, cl_abs] at h1
    have h1 : (cLt ((cl x).map absN) ((cl s).map absN) || cEq ((cl s).map absN) ((cl x).map absN)) = true := by simpa using h1
    simp only [sumStep, cl_fres, h1, if_true]
theorem end_cl {s c : Nat} {W0 : World} {p : Option Nat × Option Nat} (h : (cl s, cl c) = p) :
    (fLt 9218868437227405311 (absN s) = true → cl s = sumEnd p) ∧ (isnan s = true → cl s = sumEnd p) ∧ (¬ fLt 9218868437227405311 (absN s) = true → isnan s = false → cl (fres .add s c W0) = sumEnd p) := by
  subst h
  have e : cl 9218868437227405311 = some 9218868437227405311 := by decide
  refine ⟨fun h1 => ?_, fun h1 => ?_, fun h1 h2 => ?_⟩
  · rw [fLt_cl, e, cl_abs] at h1
    unfold sumEnd
    rw [if_pos (by simp only [h1, Bool.true_or])]
  · rw [isnan_cl] at h1
    unfold sumEnd
    rw [if_pos (by simp only [h1, Bool.or_true])]
  · rw [fLt_cl, e, cl_abs] at h1
    rw [isnan_cl] at h2
    unfold sumEnd
    rw [if_neg (by simp only [h2, Bool.or_false]; exact h1), cl_fres]
set_option maxRecDepth 100000 in
set_option maxHeartbeats 400000 in
theorem sum_b {w : World} {A : Option Addr} {cp : Nat} {l : List Nat} (hL : LiesF w (.slice A l.length cp) l) (hn : l.length ≤ 9223372036854775807) :
    Calls Try.prog 27 #[.slice A l.length cp] w fun e w' => ∃ x n, e = .returned (.float .f64 x) ∧ cl x = pSum (l.map cl) ∧ x < 18446744073709551616 ∧ w' = w.drewN n := by
  replace hL := Lib.hid hL
  have hni : (l.length : Int) ≤ 9223372036854775807 := by omega
  clear hn
  go_enter Try.func27, Try.ntmps27
  go_wp2_with fail
  go_loopg [3, 4, 10] l.length (fun gk c3 c4 c10 wr => ∃ j s c : Nat, gk + j = l.length ∧ c3 = .float .f64 s ∧ c4 = .float .f64 c ∧ c10 = .int .i64 (j : Int) ∧ Hid ((cl s, cl c) = sumGo ((l.take j).map cl)) ∧ s < 18446744073709551616 ∧ Hid (∃ n, wr = w.drewN n))
  case atStart => exact ⟨0, 0, 0, rfl, rfl, rfl, rfl, Lib.hid rfl, by omega, Lib.hid ⟨0, rfl⟩⟩
  case round =>
    obtain ⟨j, s, c, hgk, rfl, rfl, rfl, hS, hs, hW⟩ := hrel
    have HG := Lib.hid hgk
    clear hgk
    by_cases hj : j < l.length
    · obtain ⟨g, rfl⟩ : ∃ g, gk = g + 1 := ⟨gk - 1, by have := HG.out; omega⟩
      have hL2 : LiesF wr (.slice A l.length cp) l := by obtain ⟨n, e⟩ := hW.out; rw [e]; exact hL.out.drewN n
      obtain ⟨A2, c2, ev, _, _, hb, hcs⟩ := hL2
      rw [Value.slice.injEq] at ev
      obtain ⟨rfl, -, rfl⟩ := ev
      obtain ⟨gz, oz, rfl, hcl⟩ := hcs j hj
      have hxb := hb _ (show l.getD j 0 ∈ l by rw [List.getD_eq_getElem?_getD, List.getElem?_eq_getElem hj]; exact List.getElem_mem hj)
      have hji : (j : Int) < l.length := by omega
      have HN := Lib.hid (sumGo_one hj)
      clear hcs hb
      generalize l.getD j 0 = x at *
      go_wp2_with (go_at_call 45; first | (refine (abs_b s hs _).mono ?_; rintro e _ ⟨rfl, rfl⟩) | (refine (abs_b x hxb _).mono ?_; rintro e _ ⟨rfl, rfl⟩))
      · go_roundg g
        case measure => omega
        case rel =>
          rename_i hcmp
          have hst := fun W0 W1 W2 W3 => Lib.hid (((step_cl (x := x) (W0 := W0) (W1 := W1) (W2 := W2) (W3 := W3) hS.out).2 hcmp).trans HN.out.symm)
          have hdm := fun m => Lib.hid (drew_more hW.out m)
          refine ⟨j + 1, _, _, ?_, rfl, rfl, ?_, hst _ _ _ _, ?_, hdm _⟩
          · have := HG.out; omega
          · go_num
          · exact fres_lt _ _ _ _
      · go_roundg g
        case measure => omega
        case rel =>
          rename_i hcmp
          have hst := fun W0 W1 W2 W3 => Lib.hid (((step_cl (x := x) (W0 := W0) (W1 := W1) (W2 := W2) (W3 := W3) hS.out).1 hcmp).trans HN.out.symm)
          have hdm := fun m => Lib.hid (drew_more hW.out m)
          refine ⟨j + 1, _, _, ?_, rfl, rfl, ?_, hst _ _ _ _, ?_, hdm _⟩
          · have := HG.out; omega
          · go_num
          · exact fres_lt _ _ _ _
    · obtain rfl : j = l.length := by have := HG.out; omega
      rw [List.take_length] at hS
      clear hj
      go_wp2_with (first | (go_at_call 46; refine (isinf_b s hs _).mono ?_; rintro e _ ⟨rfl, rfl⟩) | (go_at_call 47; refine (isnan_b s _).mono ?_; rintro e _ ⟨rfl, rfl⟩))
      · go_ret
        exact ⟨_, _, rfl, (end_cl (W0 := w) hS.out).1 (by assumption), hs, hW.out.choose_spec⟩
      · go_ret
        exact ⟨_, _, rfl, (end_cl (W0 := w) hS.out).2.1 (by assumption), hs, hW.out.choose_spec⟩
      · go_ret
        exact ⟨_, _, rfl, (end_cl hS.out).2.2 (by assumption) (by assumption), fres_lt _ _ _ _, (drew_more hW.out _).choose_spec⟩
end Go.Proofs.Yteoebfjhadmnbaa
/- stats: the document's Sum by contract; Mean of both. PRINTED by stats/mkst.py. -/
namespace Go.Proofs.Yteoebfjhadmnbaa
open Go.RowKit Ieee
set_option maxHeartbeats 4000000
set_option linter.unusedVariables false
set_option linter.unusedSimpArgs false
set_option maxRecDepth 100000 in
set_option maxHeartbeats 400000 in
theorem rsum_b {w : World} {A : Option Addr} {cp : Nat} {l : List Nat} (hL : LiesF w (.slice A l.length cp) l) (hn : l.length ≤ 9223372036854775807) :
    Calls Try.prog 41 #[.slice A l.length cp] w fun e w' => ∃ x n, e = .returned (.float .f64 x) ∧ cl x = pSum (l.map cl) ∧ x < 18446744073709551616 ∧ w' = w.drewN n := by
  replace hL := Lib.hid hL
  have hni : (l.length : Int) ≤ 9223372036854775807 := by omega
  clear hn
  go_enter Try.func41, Try.ntmps41
  go_wp2_with fail
  go_loopg [3, 4, 5] l.length (fun gk c3 c4 c10 wr => ∃ j s c : Nat, gk + j = l.length ∧ c3 = .float .f64 s ∧ c4 = .float .f64 c ∧ c10 = .int .i64 (j : Int) ∧ Hid ((cl s, cl c) = sumGo ((l.take j).map cl)) ∧ s < 18446744073709551616 ∧ Hid (∃ n, wr = w.drewN n))
  case atStart => exact ⟨0, 0, 0, rfl, rfl, rfl, rfl, Lib.hid rfl, by omega, Lib.hid ⟨0, rfl⟩⟩
  case round =>
    obtain ⟨j, s, c, hgk, rfl, rfl, rfl, hS, hs, hW⟩ := hrel
    have HG := Lib.hid hgk
    clear hgk
    by_cases hj : j < l.length
    · obtain ⟨g, rfl⟩ : ∃ g, gk = g + 1 := ⟨gk - 1, by have := HG.out; omega⟩
      have hL2 : LiesF wr (.slice A l.length cp) l := by obtain ⟨n, e⟩ := hW.out; rw [e]; exact hL.out.drewN n
      obtain ⟨A2, c2, ev, _, _, hb, hcs⟩ := hL2
      rw [Value.slice.injEq] at ev
      obtain ⟨rfl, -, rfl⟩ := ev
      obtain ⟨gz, oz, rfl, hcl⟩ := hcs j hj
      have hxb := hb _ (show l.getD j 0 ∈ l by rw [List.getD_eq_getElem?_getD, List.getElem?_eq_getElem hj]; exact List.getElem_mem hj)
      have hji : (j : Int) < l.length := by omega
      have HN := Lib.hid (sumGo_one hj)
      clear hcs hb
      generalize l.getD j 0 = x at *
      go_wp2_with (go_at_call 45; first | (refine (abs_b s hs _).mono ?_; rintro e _ ⟨rfl, rfl⟩) | (refine (abs_b x hxb _).mono ?_; rintro e _ ⟨rfl, rfl⟩))
      · go_roundg g
        case measure => omega
        case rel =>
          rename_i hcmp
          have hst := fun W0 W1 W2 W3 => Lib.hid (((step_cl (x := x) (W0 := W0) (W1 := W1) (W2 := W2) (W3 := W3) hS.out).2 hcmp).trans HN.out.symm)
          have hdm := fun m => Lib.hid (drew_more hW.out m)
          refine ⟨j + 1, _, _, ?_, rfl, rfl, ?_, hst _ _ _ _, ?_, hdm _⟩
          · have := HG.out; omega
          · go_num
          · exact fres_lt _ _ _ _
      · go_roundg g
        case measure => omega
        case rel =>
          rename_i hcmp
          have hst := fun W0 W1 W2 W3 => Lib.hid (((step_cl (x := x) (W0 := W0) (W1 := W1) (W2 := W2) (W3 := W3) hS.out).1 hcmp).trans HN.out.symm)
          have hdm := fun m => Lib.hid (drew_more hW.out m)
          refine ⟨j + 1, _, _, ?_, rfl, rfl, ?_, hst _ _ _ _, ?_, hdm _⟩
          · have := HG.out; omega
          · go_num
          · exact fres_lt _ _ _ _
    · obtain rfl : j = l.length := by have := HG.out; omega
      rw [List.take_length] at hS
      clear hj
      go_wp2_with (first | (go_at_call 46; refine (isinf_b s hs _).mono ?_; rintro e _ ⟨rfl, rfl⟩) | (go_at_call 47; refine (isnan_b s _).mono ?_; rintro e _ ⟨rfl, rfl⟩))
      · go_ret
        exact ⟨_, _, rfl, (end_cl (W0 := w) hS.out).1 (by assumption), hs, hW.out.choose_spec⟩
      · go_ret
        exact ⟨_, _, rfl, (end_cl (W0 := w) hS.out).2.1 (by assumption), hs, hW.out.choose_spec⟩
      · go_ret
        exact ⟨_, _, rfl, (end_cl hS.out).2.2 (by assumption) (by assumption), fres_lt _ _ _ _, (drew_more hW.out _).choose_spec⟩

/-- a mean: of no numbers nought -/
def pMean (l : List (Option Nat)) : Option Nat := if l.length = 0 then some 0 else fop .quo (pSum l) (cl (floatOfInt .f64 l.length))
theorem foi_lt (n : Int) : floatOfInt .f64 n < 18446744073709551616 := by
  have := floatOfInt_wf .f64 n
  simpa [Lit.wf, FloatKind.format, double, Format.width] using this
set_option maxRecDepth 100000 in
theorem mean_b {w : World} {A : Option Addr} {cp : Nat} {l : List Nat} (hL : LiesF w (.slice A l.length cp) l) (hn : l.length ≤ 9223372036854775807) :
    Calls Try.prog 24 #[.slice A l.length cp] w fun e w' => ∃ x n, e = .returned (.tuple #[.float .f64 x, .bool (l.length != 0)]) ∧ cl x = pMean (l.map cl) ∧ x < 18446744073709551616 ∧ w' = w.drewN n := by
  have C := Lib.hid (sum_b hL hn)
  have hpm : Hid (pMean (l.map cl) = if l.length = 0 then some 0 else fop .quo (pSum (l.map cl)) (cl (floatOfInt .f64 l.length))) := Lib.hid (by unfold pMean; rw [List.length_map])
  have hni : (l.length : Int) ≤ 9223372036854775807 := by omega
  clear hL hn
  go_enter Try.func24, Try.ntmps24
  by_cases h0 : l.length = 0
  · have h1 : (l.length : Int) = 0 := by omega
    have h2 : (l.length != 0) = false := by simp [h0]
    rw [h2]
    go_wp2
    go_ret2
    exact ⟨_, 0, rfl, by rw [hpm.out, if_pos h0]; rfl, by omega, rfl⟩
  · have h1 : ¬ (l.length : Int) = 0 := by omega
    have h2 : (l.length != 0) = true := by simp [h0]
    rw [h2]
    go_wp2_with fail
    refine C.out.mono ?_
    rintro _ w1 ⟨s, n, rfl, hs, hs2, rfl⟩
    go_wp2
    go_ret2
    exact ⟨_, _, rfl, by rw [hpm.out, if_neg h0, cl_fres, hs], fres_lt _ _ _ _, rfl⟩
set_option maxRecDepth 100000 in
theorem rmean_b {w : World} {A : Option Addr} {cp : Nat} {l : List Nat} (hL : LiesF w (.slice A l.length cp) l) (hn : l.length ≤ 9223372036854775807) :
    Calls Try.prog 40 #[.slice A l.length cp] w fun e w' => ∃ x n, e = .returned (.tuple #[.float .f64 x, .bool (l.length != 0)]) ∧ cl x = pMean (l.map cl) ∧ x < 18446744073709551616 ∧ w' = w.drewN n := by
  have C := Lib.hid (rsum_b hL hn)
  have hpm : Hid (pMean (l.map cl) = if l.length = 0 then some 0 else fop .quo (pSum (l.map cl)) (cl (floatOfInt .f64 l.length))) := Lib.hid (by unfold pMean; rw [List.length_map])
  have hni : (l.length : Int) ≤ 9223372036854775807 := by omega
  clear hL hn
  go_enter Try.func40, Try.ntmps40
  by_cases h0 : l.length = 0
  · have h1 : (l.length : Int) = 0 := by omega
    have h2 : (l.length != 0) = false := by simp [h0]
    rw [h2]
    go_wp2
    go_ret2
    exact ⟨_, 0, rfl, by rw [hpm.out, if_pos h0]; rfl, by omega, rfl⟩
  · have h1 : ¬ (l.length : Int) = 0 := by omega
    have h2 : (l.length != 0) = true := by simp [h0]
    rw [h2]
    go_wp2_with fail
    refine C.out.mono ?_
    rintro _ w1 ⟨s, n, rfl, hs, hs2, rfl⟩
    go_wp2
    go_ret2
    exact ⟨_, _, rfl, by rw [hpm.out, if_neg h0, cl_fres, hs], fres_lt _ _ _ _, rfl⟩
end Go.Proofs.Yteoebfjhadmnbaa
