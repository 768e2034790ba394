/- Lists of words that a call makes: kept over gets and puts; one word more. -/
import Derived.Test.YthabfblcmbjlnaaRoom3
namespace Go.Proofs.Ythabfblcmbjlnaa
open Go.RowKit

theorem u64_info : (Try.prog.info? 31).map (fun i => (i.zero, i.size, i.bytes)) = some (some (.int .u64 0), 1, 8) := by kernel_rfl

/-- The slice v is a list of words of the call's own, in a block from B on. -/
def Own (w : World) (B : Nat) (v : Value) (l : List Int) : Prop := w.ownsRow B 31 1 v l.length (l.map (Value.int .u64))

theorem Own.nil (w : World) (B : Nat) : Own w B (.slice none 0 0) [] := World.ownsRow_nil _ _ _ _
theorem Own.shape {w : World} {B : Nat} {v : Value} {l : List Int} (h : Own w B v l) : ∃ A cp, v = .slice A l.length cp := by
  rcases h.2 with ⟨h1, h2⟩ | ⟨g, cap, cur, h1, _⟩
  · exact ⟨none, 0, by rw [h1, h2]⟩
  · exact ⟨_, _, h1⟩
theorem Own.keep {w w' : World} {B : Nat} {v : Value} {l : List Int} (h : Own w B v l) (hk : ∀ k, B ≤ k → k < w.heap.size → w'.heap[k]? = w.heap[k]?) : Own w' B v l := by
  obtain ⟨h0, h⟩ := h
  refine ⟨h0, ?_⟩
  rcases h with h1 | ⟨g, cap, cur, h1, h2, h3, h4⟩
  · exact .inl h1
  · have hlt : g < w.heap.size := by
      rcases Nat.lt_or_ge g w.heap.size with hl | hg
      · exact hl
      · rw [Array.getElem?_eq_none hg] at h3; cases h3
    exact .inr ⟨g, cap, cur, h1, h2, (hk g h2 hlt).trans h3, h4⟩
theorem Own.mod {w w' : World} {B b g : Nat} {v : Value} {l : List Int} (h : Own w B v l) (hm : Mod b g w w') (hb : b < B) (hg : g < B) : Own w' B v l :=
  h.keep fun k h1 h2 => hm.block k h2 (by omega) (by omega)
theorem Own.below {w w' : World} {B B' : Nat} {v : Value} {l : List Int} (h : Own w B v l) (hb : Below B' w w') (hB : w.heap.size ≤ B') : Own w' B v l :=
  h.keep fun k _ h2 => hb.block k (by omega)
theorem Own.cell {w : World} {B : Nat} {A : Option Addr} {cp : Nat} {l : List Int} (h : Own w B (.slice A l.length cp) l) (j : Nat) (hj : j < l.length) :
    ∃ g, A = some ⟨g, 0, none⟩ ∧ B ≤ g ∧ g < w.heap.size ∧ w.cell? ⟨g, j, none⟩ = some (.int .u64 (l.getD j 0)) ∧ w.frozen? ⟨g, j, none⟩ = false := by
  have h' := h
  obtain ⟨g, cap, hv, hB, hlt⟩ := World.ownsRow.form h (by omega)
  injection hv with hv1 hv2 hv3
  subst hv1
  subst hv3
  refine ⟨g, rfl, hB, hlt, ?_, h'.frozenAt j⟩
  rw [h'.cellAt j (by omega), List.getElem?_map, List.getElem?_eq_getElem hj, List.getD_eq_getElem?_getD, List.getElem?_eq_getElem hj]
  rfl

theorem Mod.then_below {b g B : Nat} {a w w' : World} (h : Mod b g a w) (hb : Below B w w') (hB : a.heap.size ≤ B) : Mod b g a w' :=
  ⟨hb.os.trans h.os, hb.tape.trans h.tape, hb.output.trans h.output, Nat.le_trans h.size hb.size, fun k hk h1 h2 => (hb.block k (by omega)).trans (h.block k hk h1 h2)⟩
theorem Wld.below {B b g cap : Nat} {s : St} {w w' : World} (h : Wld w b g cap s) (hb : Below B w w') (h1 : b < B) (h2 : g < B) : Wld w' b g cap s := by
  obtain ⟨k1, cur, k2, k3⟩ := h
  exact ⟨k1.below hb h1, cur, k2.below hb h2, k3⟩
theorem Txw.below {B t b g cap : Nat} {s : St} {w w' : World} (h : Txw w t b g cap s) (hb : Below B w w') (h0 : t < B) (h1 : b < B) (h2 : g < B) : Txw w' t b g cap s :=
  ⟨h.1.below hb h0, h.2.below hb h1 h2⟩

/-- One word more: 'append(out, x)', out the call's own. -/
theorem wpList_app1 {ops : Array Oper} {rest : List Oper} {o : Oper} {a : Act} {Q : Exit → Act → World → Prop} (wr : World) (hgd : o.guard = none) (s x : Operand)
    (ho : o.op = .call { callee := .builtin .append, args := #[s, x], argTypes := #[22, 22] })
    (B : Nat) (A : Option Addr) (l : List Int) (cp : Nat) (y : Int) (hs : a.eval s = .slice A l.length cp) (hown : Own wr B (.slice A l.length cp) l)
    (hx : a.eval x = .slice (some ⟨wr.heap.size, 0, none⟩) 1 1) (hlen : l.length ≤ 1099511627776) (hB : B ≤ wr.heap.size)
    (h : ∀ g cap w', Own w' B (.slice (some ⟨g, 0, none⟩) (l.length + 1) cap) (l ++ [y]) → Below B wr w' → (A = some ⟨g, 0, none⟩ ∨ wr.heap.size ≤ g) → wpList Try.prog ops Q rest (a.put o.dst (.slice (some ⟨g, 0, none⟩) (l.length + 1) cap)) w') :
    wpList Try.prog ops Q (o :: rest) a (wr.alloc (.cells #[.int .u64 y] 31)) := by
  obtain ⟨i0, hi, hz0, hz1, hz2⟩ := info_parts u64_info
  refine wpList_append_lies _ hgd s x 22 ho B 31 i0 (.int .u64 0) 1 8 Try.underlying22 hi hz0 hz1 hz2 rfl (by decide) (.slice A l.length cp) l.length (l.map (Value.int .u64)) hs (hown.alloc _) ⟨wr.heap.size, 0, none⟩ 1 1 [.int .u64 y] hx rfl
    (World.news_of_block (heap_alloc_new wr _)) (by intro u hu; simp at hu; subst hu; rfl) (by decide) (by unfold maxLen; omega) (by omega) (by simp; omega) (wr.heap.size + 1) (by simp) ?_
  intro g cap w' hown' hgr hat hlt
  refine h g cap w' ?_ ?_ ?_
  · have e : (l ++ [y]).length = l.length + 1 := by simp
    have e2 : (l ++ [y]).map (Value.int .u64) = l.map (Value.int .u64) ++ [.int .u64 y] := by simp
    unfold Own; rw [e, e2]; exact hown'
  · have hb : Below B wr (wr.alloc (.cells #[.int .u64 y] 31)) := (Below.refl _ _).alloc hB _
    refine hb.grown hgr (by simp; omega) ?_
    intro k hk
    exact (World.ownsRow.lt hown k hk).1
  · rcases hat with hat | hat
    · rcases hown.2 with ⟨h1, _⟩ | ⟨g', cap', cur', h1, _⟩
      · rw [h1] at hat; cases hat
      · rw [h1] at hat
        injection h1 with h1a h1b h1c
        have : g' = g := by simpa [Value.ownBlock] using hat
        left; rw [h1a, this]
    · right; omega
end Go.Proofs.Ythabfblcmbjlnaa
