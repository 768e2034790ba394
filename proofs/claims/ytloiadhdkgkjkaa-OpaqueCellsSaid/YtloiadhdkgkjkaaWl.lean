/- Lists of words that a call has made: kept, one word more; two lists compared. -/
import Derived.Test.YtloiadhdkgkjkaaBase
import Derived.Deep.QuietTactic
import Derived.BigQuiet
import Derived.Deep.LoopGhost
import Derived.WalkMore
import Derived.IntWalk
namespace Go.Proofs.Ytloiadhdkgkjkaa
open Go.RowKit
set_option maxHeartbeats 2000000
set_option linter.unusedVariables false

/-- the block of a slice -/
def own (v : Value) : Nat → Prop := fun k => v.ownBlock = some k
theorem own_len {A : Option Addr} {n c n' c' k : Nat} (h : own (.slice A n c) k) : own (.slice A n' c') k := by cases A <;> exact h
theorem u64_info : (Try.prog.info? 35).map (fun i => (i.zero, i.size, i.bytes)) = some (some (.int .u64 0), 1, 8) := by kernel_rfl
def u64s (l : List Int) : List Value := l.map (Value.int .u64)
theorem u64s_one (l : List Int) : ∀ u ∈ u64s l, u.oneCell' = true := by
  intro u hu
  obtain ⟨y, _, rfl⟩ := List.mem_map.1 hu
  rfl
/-- The slice v has the words l, in a block of its own. -/
def Wl (w : World) (v : Value) (l : List Int) : Prop := Rowv w 0 35 1 v l.length (u64s l)
section
variable {w w' : World} {v : Value} {l : List Int} {G G' : Nat → Prop}
theorem Wl.nil (w : World) : Wl w (.slice none 0 0) [] := Rowv.nil _ _ _ _
theorem Wl.shape (h : Wl w v l) : ∃ A cap, v = .slice A l.length cap ∧ l.length ≤ cap := by
  obtain ⟨A, cap, h1, h2, _⟩ := Rowv.shape h
  exact ⟨A, cap, h1, h2⟩
theorem Wl.lt (h : Wl w v l) : ∀ k, own v k → k < w.heap.size := fun k hk => (Rowv.lt h hk).2
theorem Wl.keep (h : Wl w v l) (hk : ∀ k, own v k → w'.heap[k]? = w.heap[k]?) : Wl w' v l := Rowv.keep h hk
theorem Wl.fr (h : Wl w v l) (hf : Fr G w G' w') (hG : ∀ k, own v k → ¬ G k) : Wl w' v l := h.keep fun k hk => hf.block k (h.lt k hk) (hG k hk)
theorem Wl.alloc (h : Wl w v l) (o : Obj) : Wl (w.alloc o) v l := Rowv.alloc h o
theorem Wl.drewN (h : Wl w v l) (n : Nat) : Wl (w.drewN n) v l := h
theorem Wl.set (h : Wl w v l) {p : Addr} (hp : ¬ own v p.block) (u : Value) : Wl (w.setCell p u) v l := Rowv.far h hp u
theorem Wl.new (w : World) (l : List Int) (hl : l.length ≤ 9223372036854775807) : Wl (w.alloc (.cells (u64s l).toArray 35)) (.slice (some ⟨w.heap.size, 0, none⟩) l.length l.length) l :=
  ⟨by simp [u64s], .inr ⟨w.heap.size, 0, l.length, _, rfl, Nat.zero_le _, heap_alloc_new w _, Nat.le_refl _, by unfold maxLen; omega, by simp [u64s], by
    simp only [List.drop_zero]
    exact List.take_of_length_le (by simp [u64s])⟩⟩
end

/-- One word more: 'append(out, x)'. -/
theorem wpList_word {ops : Array Oper} {rest : List Oper} {o : Oper} {a : Act} {Q : Exit → Act → World → Prop} (wr : World) (hgd : o.guard = none) (s x : Operand)
    (ho : o.op = .call { callee := .builtin .append, args := #[s, x], argTypes := #[22, 22] })
    (v : Value) (l : List Int) (y : Int) (hs : a.eval s = v) (hl : Wl wr v l)
    (hx : a.eval x = .slice (some ⟨wr.heap.size, 0, none⟩) 1 1) (hlen : (l.length + 1) * 8 ≤ 140737488355328)
    (h : ∀ A cap w', l.length + 1 ≤ cap → Wl w' (.slice A (l.length + 1) cap) (l ++ [y]) → Fr (own v) wr (own (.slice A (l.length + 1) cap)) w' → wpList Try.prog ops Q rest (a.put o.dst (.slice A (l.length + 1) cap)) w') :
    wpList Try.prog ops Q (o :: rest) a (wr.alloc (.cells #[.int .u64 y] 35)) := by
  obtain ⟨i0, hi, hz0, hz1, hz2⟩ := info_parts u64_info
  refine wpList_app _ hgd s x 22 ho 35 i0 (.int .u64 0) 1 8 Try.underlying22 hi hz0 hz1 hz2 rfl (by decide) 0 v l.length (u64s l) hs (Rowv.alloc hl _) _ 1 [.int .u64 y] hx
    (Src.lit wr (vs := [.int .u64 y]) rfl (by simp [Value.oneCell']) 1) (by unfold maxLen; omega) (by omega) (Nat.zero_le _) ?_
  intro v' w' hrow hgr hown
  obtain ⟨A, cap, rfl, hc, _⟩ := hrow.shape
  refine h A cap w' hc ?_ ?_
  · unfold Wl
    rw [show (l ++ [y]).length = l.length + 1 by simp, show u64s (l ++ [y]) = u64s l ++ [.int .u64 y] by simp [u64s]]
    exact hrow
  · refine ((((Fr.refl (own v) wr).alloc _).grown hgr (fun k hk => .inl hk))).into fun k hk => ?_
    rcases hown with e | ⟨k', e, hk'⟩
    · exact .inl (by unfold own at *; rw [← e]; exact hk)
    · unfold own at hk
      rw [hk] at e
      injection e with e
      subst e
      exact .inr (.inr (by simp at hk'; omega))

/-- 'make([]uint64, n)' -/
theorem wpList_zeros {ops : Array Oper} {rest : List Oper} {o : Oper} {a : Act} {Q : Exit → Act → World → Prop} (wr : World) (hgd : o.guard = none) (l c : Operand) (ho : o.op = Op.makeSlice 22 l c)
    (kl kc : IntKind) (L C : Int) (n : Nat) (hl : a.eval l = .int kl L) (hc : a.eval c = .int kc C) (hL : L = (n : Int)) (hC : C = (n : Int)) (hn : n ≤ 1099511627776)
    (h : ∀ w', Wl w' (.slice (some ⟨wr.heap.size, 0, none⟩) n n) (List.replicate n 0) → Below wr.heap.size wr w' → wpList Try.prog ops Q rest (a.put o.dst (.slice (some ⟨wr.heap.size, 0, none⟩) n n)) w') :
    wpList Try.prog ops Q (o :: rest) a wr := by
  obtain ⟨i0, hi, hz0, hz1, hz2⟩ := info_parts u64_info
  refine wpList_make_full wr hgd l c 22 ho wr.heap.size 35 i0 (.int .u64 0) 1 Try.underlying22 hi hz0 hz1 kl kc L C n hl hc hL hC (by rw [hz2]; omega) (by unfold maxLen; omega) (Nat.le_refl _) ?_
  intro w' hr hg
  refine h w' ?_ ((Below.refl wr.heap.size wr).grown hg (Nat.le_refl _) (by intro k hk; cases hk))
  have e : (madeCells (Value.cells (.int .u64 0)) (n * 1)).toList = u64s (List.replicate n (0 : Int)) := by
    unfold u64s
    simp only [Value.cells, Nat.mul_one]
    apply List.ext_getElem
    · simp [size_madeCells]
    · intro i h1 h2
      simp [madeCells, Nat.mod_one]
  rw [e] at hr
  have hr' := Rowv.of_own hr
  unfold Wl
  simpa using hr'.base (B' := 0) (fun _ _ => Nat.zero_le _)
/-- the block of a list that begins at its block's head -/
theorem Wl.blk {w : World} {g cp : Nat} {l : List Int} (h : Wl w (.slice (some ⟨g, 0, none⟩) l.length cp) l) : ∃ cur, Blk w g 35 cur ∧ ∀ i, i < l.length → cur[i]? = some (.int .u64 (l.getD i 0)) := by
  obtain ⟨h0, h⟩ := h
  rcases h with ⟨h1, _⟩ | ⟨g', off, cap, cur, h1, h2, h3, h4, _, _, h7⟩
  · cases h1
  · injection h1 with h1a h1b h1c
    simp only [Option.some.injEq, Addr.mk.injEq, and_true] at h1a
    obtain ⟨rfl, rfl⟩ := h1a
    refine ⟨cur, h3, fun i hi => ?_⟩
    have e : ((cur.toList.drop 0).take (l.length * 1))[i]? = (u64s l)[i]? := by rw [h7]
    rw [List.drop_zero, List.getElem?_take, if_pos (by omega), Array.getElem?_toList] at e
    rw [e]
    unfold u64s
    rw [List.getElem?_map, List.getElem?_eq_getElem hi, List.getD_eq_getElem?_getD, List.getElem?_eq_getElem hi]
    rfl

/-- The slice v reads as the words l. -/
def Lies (w : World) (v : Value) (l : List Int) : Prop := ∃ A cp, v = .slice A l.length cp ∧ l.length ≤ cp ∧ (A = none → cp = 0) ∧ ∀ j, j < l.length → ∃ g o, A = some ⟨g, o, none⟩ ∧ w.cell? ⟨g, o + j, none⟩ = some (.int .u64 (l.getD j 0))
theorem Lies.drewN {w : World} {v : Value} {l : List Int} (h : Lies w v l) (n : Nat) : Lies (w.drewN n) v l := h
theorem Lies.alloc {w : World} {v : Value} {l : List Int} (h : Lies w v l) (o : Obj) : Lies (w.alloc o) v l := by
  obtain ⟨A, cp, rfl, hc, h0, h⟩ := h
  refine ⟨A, cp, rfl, hc, h0, fun j hj => ?_⟩
  obtain ⟨g, of, rfl, hcell⟩ := h j hj
  exact ⟨g, of, rfl, cell_alloc_ hcell⟩
theorem Lies.new (w : World) (l : List Int) (hl : l.length ≤ 9223372036854775807) : Lies (w.alloc (.cells (u64s l).toArray 35)) (.slice (some ⟨w.heap.size, 0, none⟩) l.length l.length) l := by
  refine ⟨_, _, rfl, Nat.le_refl _, (fun h => nomatch h), fun j hj => ⟨_, 0, rfl, ?_⟩⟩
  rw [(Blk.new w _ _).cell, List.getElem?_toArray]
  unfold u64s
  rw [Nat.zero_add, List.getElem?_map, List.getElem?_eq_getElem hj, List.getD_eq_getElem?_getD, List.getElem?_eq_getElem hj]
  rfl
theorem Wl.lies {w : World} {v : Value} {l : List Int} (h : Wl w v l) : Lies w v l := by
  obtain ⟨A, cap, rfl, hc, h0⟩ := Rowv.shape h
  refine ⟨A, cap, rfl, hc, fun h => (h0 h).2, fun j hj => ?_⟩
  obtain ⟨g, off, cap', hv, _, _, _, hcell⟩ := Rowv.at_ h (by omega)
  injection hv with h1 _ _
  obtain ⟨k1, _⟩ := hcell j (by omega)
  refine ⟨g, off, h1, k1.trans ?_⟩
  simp [u64s, List.getD_eq_getElem?_getD, hj]

theorem words_b {va vb : Value} {l1 l2 : List Int} {w : World} (h1 : Lies w va l1) (h2 : Lies w vb l2) (hn : (l1.length : Int) ≤ 9223372036854775807) :
    Calls Try.prog 21 #[va, vb] w fun e w' => (∃ n, w' = w.drewN n) ∧ e = .returned (.bool (decide (l1 = l2))) := by
  obtain ⟨A1, c1, rfl, hc1, _, k1⟩ := h1
  obtain ⟨A2, c2, rfl, hc2, _, k2⟩ := h2
  by_cases hl : l1.length = l2.length
  · go_enter Try.func21, Try.ntmps21
    go_wp2
    go_loopg [5] l1.length (fun gk c5 wr => ∃ j nd : Nat, gk + j = l1.length ∧ c5 = .int .i64 (j : Int) ∧ wr = w.drewN nd ∧ ∀ i, i < j → l1.getD i 0 = l2.getD i 0)
    case atStart => exact ⟨0, 0, rfl, rfl, rfl, fun i hi => by omega⟩
    case round =>
      obtain ⟨j, nd, hj, rfl, rfl, hall⟩ := hrel
      rcases Nat.lt_or_ge j l1.length with hlt | hge
      · obtain ⟨g1, o1, rfl, d1⟩ := k1 j hlt
        obtain ⟨g2, o2, rfl, d2⟩ := k2 j (by omega)
        generalize hy1 : l1.getD j 0 = y1 at d1
        generalize hy2 : l2.getD j 0 = y2 at d2
        have b1 : (j : Int) < l1.length := by omega
        have b2 : (j : Int) < l2.length := by omega
        go_wp2
        go_quiet (fail)
        go_wp2
        · have hne : (y1 != y2) = true := by assumption
          go_ret
          refine ⟨⟨nd + nq, drewN_drewN _ _ _⟩, ?_⟩
          have e : decide (l1 = l2) = false := decide_eq_false fun h => by rw [h, hy2] at hy1; rw [hy1] at hne; simp at hne
          rw [e]; rfl
        · have heq : (y1 != y2) = false := by assumption
          have heq : y1 = y2 := by simpa using heq
          obtain ⟨k, rfl⟩ : ∃ k, gk = k + 1 := ⟨gk - 1, by omega⟩
          go_roundg k
          case measure => omega
          case rel => exact ⟨j + 1, nd + nq, by omega, by simp, rfl, fun i hi => by
            rcases Nat.lt_or_ge i j with h | h
            · exact hall i h
            · obtain rfl : i = j := by omega
              rw [hy1, hy2, heq]⟩
      · go_wp2
        go_ret
        refine ⟨⟨nd, rfl⟩, ?_⟩
        have : l1 = l2 := List.ext_getElem hl fun i h1 h2 => by
          have := hall i (by omega)
          rw [List.getD_eq_getElem?_getD, List.getElem?_eq_getElem h1, List.getD_eq_getElem?_getD, List.getElem?_eq_getElem h2] at this
          exact this
        rw [decide_eq_true this]; rfl
  · go_enter Try.func21, Try.ntmps21
    go_wp2
    go_ret
    have e : decide (l1 = l2) = false := decide_eq_false fun h => hl (by rw [h])
    exact ⟨⟨0, rfl⟩, by rw [e]; rfl⟩

theorem Lies.src {w : World} {v : Value} {l : List Int} (h : Lies w v l) : Src w v l.length 1 (u64s l) := by
  obtain ⟨A, cp, rfl, hc, h0, h⟩ := h
  cases A with
  | none =>
    obtain rfl := h0 rfl
    obtain rfl : l = [] := List.eq_nil_of_length_eq_zero (by omega)
    exact .inl ⟨rfl, rfl, rfl⟩
  | some ad =>
    refine .inr ⟨ad, cp, rfl, by simp [u64s], fun j u hj => ?_, u64s_one l⟩
    unfold u64s at hj
    rw [List.getElem?_map] at hj
    by_cases hjl : j < l.length
    · obtain ⟨g, o, e, hcell⟩ := h j hjl
      injection e with e
      subst e
      rw [Addr.add_lit, hcell]
      rw [List.getElem?_eq_getElem hjl] at hj
      injection hj with hj
      rw [← hj, List.getD_eq_getElem?_getD, List.getElem?_eq_getElem hjl]
      rfl
    · rw [List.getElem?_eq_none (by omega)] at hj; cases hj
/-- 'append(s, l...)', s the call's own. -/
theorem wpList_words {ops : Array Oper} {rest : List Oper} {o : Oper} {a : Act} {Q : Exit → Act → World → Prop} (wr : World) (hgd : o.guard = none) (s x : Operand)
    (ho : o.op = .call { callee := .builtin .append, args := #[s, x], argTypes := #[22, 22] })
    (v u : Value) (l m : List Int) (hs : a.eval s = v) (hl : Wl wr v l) (hx : a.eval x = u) (hm : Lies wr u m) (hlen : (l.length + m.length) * 8 ≤ 140737488355328)
    (h : ∀ A cap w', l.length + m.length ≤ cap → Wl w' (.slice A (l.length + m.length) cap) (l ++ m) → Fr (own v) wr (own (.slice A (l.length + m.length) cap)) w' → wpList Try.prog ops Q rest (a.put o.dst (.slice A (l.length + m.length) cap)) w') :
    wpList Try.prog ops Q (o :: rest) a wr := by
  obtain ⟨i0, hi, hz0, hz1, hz2⟩ := info_parts u64_info
  refine wpList_app _ hgd s x 22 ho 35 i0 (.int .u64 0) 1 8 Try.underlying22 hi hz0 hz1 hz2 rfl (by decide) 0 v l.length (u64s l) hs hl _ m.length (u64s m) hx hm.src (by unfold maxLen; omega) (by omega) (Nat.zero_le _) ?_
  intro v' w' hrow hgr hown
  obtain ⟨A, cap, rfl, hc, _⟩ := hrow.shape
  refine h A cap w' hc ?_ ?_
  · unfold Wl
    rw [show (l ++ m).length = l.length + m.length by simp, show u64s (l ++ m) = u64s l ++ u64s m by simp [u64s]]
    exact hrow
  · refine ((Fr.refl (own v) wr).grown hgr (fun k hk => .inl hk)).into fun k hk => ?_
    rcases hown with e | ⟨k', e, hk'⟩
    · exact .inl (by unfold own at *; rw [← e]; exact hk)
    · unfold own at hk
      rw [hk] at e
      injection e with e
      subst e
      exact .inr (.inr hk')
theorem Wl.cut {w : World} {A : Option Addr} {cap : Nat} {l m : List Int} (h : Wl w (.slice A (l.length + m.length) cap) (l ++ m)) (hc : l.length + m.length ≤ cap) : Wl w (.slice A l.length cap) l := by
  have h' : Rowv w 0 35 1 (.slice A (l.length + m.length) cap) (l.length + m.length) (u64s (l ++ m)) := by
    unfold Wl at h
    simpa using h
  have := h'.cut (m := l.length) (c := cap) (by omega) (by omega) (Nat.le_refl _)
  unfold Wl
  rw [show u64s l = (u64s (l ++ m)).take (l.length * 1) by simp [u64s]]
  exact this
theorem Lies.below {w w' : World} {v : Value} {l : List Int} (h : Lies w v l) (hb : Below w.heap.size w w') : Lies w' v l := by
  obtain ⟨A, cp, rfl, hc, h0, h⟩ := h
  refine ⟨A, cp, rfl, hc, h0, fun j hj => ?_⟩
  obtain ⟨g, of, rfl, hcell⟩ := h j hj
  have hlt : g < w.heap.size := Nat.lt_of_not_le fun hh => by
    unfold World.cell? at hcell
    rw [Array.getElem?_eq_none hh] at hcell
    cases hcell
  exact ⟨g, of, rfl, (hb.cell (p := ⟨g, of + j, none⟩) hlt).trans hcell⟩
theorem Wl.upd {w : World} {A : Option Addr} {cap : Nat} {l : List Int} (h : Wl w (.slice A l.length cap) l) {j : Nat} (hj : j < l.length) :
    ∃ g o, A = some ⟨g, o, none⟩ ∧ g < w.heap.size ∧ w.cell? ⟨g, o + j, none⟩ = some (.int .u64 (l.getD j 0)) ∧ w.frozen? ⟨g, o + j, none⟩ = false ∧
      ∀ x, Wl (w.setCell ⟨g, o + j, none⟩ (.int .u64 x)) (.slice A (l.set j x).length cap) (l.set j x) := by
  have hlt := h.lt
  obtain ⟨h0, h⟩ := h
  rcases h with ⟨h1, h2⟩ | ⟨g, off, cap', cur, h1, h2, h3, h4, h5, h6, h7⟩
  · omega
  · injection h1 with h1a h1b h1c
    subst h1a
    subst h1c
    have hc : w.cell? ⟨g, off + j, none⟩ = cur[off + j]? := by simp [World.cell?, h3]
    have e7 : ∀ i, i < l.length → cur[off + i]? = some (.int .u64 (l.getD i 0)) := fun i hi => by
      have e : ((cur.toList.drop off).take (l.length * 1))[i]? = (u64s l)[i]? := by rw [h7]
      rw [List.getElem?_take, if_pos (by omega), List.getElem?_drop, Array.getElem?_toList] at e
      rw [e]
      unfold u64s
      rw [List.getElem?_map, List.getElem?_eq_getElem hi, List.getD_eq_getElem?_getD, List.getElem?_eq_getElem hi]
      rfl
    refine ⟨g, off, rfl, hlt g rfl, hc.trans (e7 j hj), by simp [World.frozen?, h3], fun x => ⟨by simp [u64s], .inr ⟨g, off, cap, cur.setIfInBounds (off + j) (.int .u64 x), rfl, h2, ?_, by simpa using h4, h5, by simpa using h6, ?_⟩⟩⟩
    · exact (show Blk w g 35 cur from h3).set_ (off + j) (.int .u64 x)
    · apply List.ext_getElem?
      intro i
      rw [List.getElem?_take, List.getElem?_drop, Array.getElem?_toList]
      simp only [List.length_set, Nat.mul_one]
      by_cases hi : i < l.length
      · have hs : off + j < cur.size := by omega
        rw [if_pos hi, Array.getElem?_setIfInBounds]
        unfold u64s
        rw [List.map_set, List.getElem?_set]
        by_cases e : j = i
        · subst e
          simp [hs, hi]
        · rw [if_neg (by omega), if_neg e, e7 i hi, List.getElem?_map, List.getElem?_eq_getElem hi, List.getD_eq_getElem?_getD, List.getElem?_eq_getElem hi]
          rfl
      · rw [if_neg hi, List.getElem?_eq_none (by simp [u64s]; omega)]
end Go.Proofs.Ytloiadhdkgkjkaa
