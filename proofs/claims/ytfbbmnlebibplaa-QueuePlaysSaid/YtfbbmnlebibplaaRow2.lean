/- One law for every append, which tells besides that the slice appended to reads on as before. -/
import Derived.Test.YtfbbmnlebibplaaRow
namespace Go.Proofs.Ytfbbmnlebibplaa
open Go.RowKit
section
variable {w w' : World} {B : Nat} {e : TypeId} {size : Nat} {v : Value} {n : Nat} {xs : List Value}
/-- append, whatever is appended to a slice that the call has made: the slice itself reads on as before. -/
theorem wpList_app2 {P : Program} (w : World) {ops : Array Oper} {rest : List Oper} {o : Oper} {a : Act} {Q : Exit → Act → World → Prop} (hg : o.guard = none) (s x : Operand) (t : TypeId)
    (hop : o.op = Op.call { callee := Callee.builtin Builtin.append, args := #[s, x], argTypes := #[t, t] }) (e : TypeId) (i : TypeInfo) (z : Value) (size bytes : Nat) (h1 : P.underlying t = some (.slice e)) (h2 : P.info? e = some i) (h3 : i.zero = some z) (h4 : i.size = size) (h5 : i.bytes = bytes) (h6 : z.cells.size = size) (h7 : 0 < size)
    (B : Nat) (v : Value) (n : Nat) (xs : List Value) (hs : a.eval s = v) (hrow : Rowv w B e size v n xs) (u : Value) (m : Nat) (news : List Value) (hx : a.eval x = u) (hsrc : Src w u m size news) (b1 : n + m ≤ maxLen) (b2 : (n + m) * bytes ≤ 140737488355328) (hB : B ≤ w.heap.size)
    (hK : ∀ v' w', Rowv w' B e size v' (n + m) (xs ++ news) → Rowv w' B e size v n xs → w.grownBy w' v.ownBlock → ((∃ A c, v = .slice A n c ∧ v' = .slice A (n + m) c) ∨ ∃ k, v'.ownBlock = some k ∧ w.heap.size ≤ k) → wpList P ops Q rest (a.put o.dst v') w') :
    wpList P ops Q (o :: rest) a w := by
  rcases hsrc with ⟨rfl, rfl, rfl⟩ | ⟨ad, c, rfl, hn, hc, h1c⟩
  · refine wpList_plain hg fun K hK' => ?_
    have hrun : (Builtin.append_ #[t, t] o.type #[v, .slice none 0 0]).run P w = .ok v w := by
      rcases hrow.2 with ⟨rfl, rfl⟩ | ⟨g, off, cap, cur, rfl, _, _, hnc, _⟩
      · simp [Builtin.append_, run_underlying h1, sizeOf, typeInfo, h2, Builtin.lenOf, Builtin.firstCells]
      · simp [Builtin.append_, run_underlying h1, sizeOf, typeInfo, h2, Builtin.lenOf, Builtin.firstCells, hnc, storeCells]
    unfold Oper.wp
    simp [execOp, hop, resolve, invoke, builtin, hs, hx, hrun, Result.andThen]
    obtain ⟨A0, c0, hv0, _⟩ := hrow.shape
    exact hK' _ _ (hK v w (by simpa using hrow) hrow ⟨rfl, rfl, rfl, Nat.le_refl _, fun _ _ _ => rfl⟩ (.inl ⟨A0, c0, hv0, hv0⟩))
  · rcases hrow.2 with ⟨rfl, rfl⟩ | ⟨g, off, cap, cur, rfl, k2, k3, k4, k5, k6, k7⟩
    · have e0 : xs = [] := List.eq_nil_of_length_eq_zero (by simpa using hrow.1)
      subst e0
      refine wpList_append_own w hg s x t hop w.heap.size e i z size bytes h1 h2 h3 h4 h5 h6 h7 (.slice none 0 0) 0 [] hs (World.ownsRow_nil w w.heap.size e size) ad m c news hx hn hc h1c b1 b2 (Nat.le_refl _) ?_
      intro v' w' hown hgr hnil
      have hr := Rowv.of_own hown
      refine hK v' w' (hr.base fun k hk => Nat.le_trans hB (hr.lt hk).1) (Rowv.nil _ _ _ _) hgr ?_
      by_cases hm : m = 0
      · left; exact ⟨none, 0, rfl, by rw [hnil.2 ⟨rfl, hm⟩, hm]⟩
      · rcases hown.2 with ⟨h, _⟩ | ⟨g, cap, cur, rfl, hb, hh, _⟩
        · exact absurd (hnil.1 h).2 hm
        · exact .inr ⟨g, rfl, hb⟩
    · have hcell : ∀ j, w.cell? ⟨g, off + j, none⟩ = cur[off + j]? := fun j => by simp [World.cell?, k3]
      have hmul : (n + m) * size = n * size + m * size := Nat.add_mul n m size
      refine wpList_append_arg w hg s x t hop e i z size bytes h1 h2 h3 h4 h5 h6 h7 g off n cap xs hs hrow.1 (fun j u hj => ?_) ad m c news hx hn hc h1c (fun hr j hj => ?_) b1 b2 (fun hr => ?_) (fun _ v' w' hown hgr => ?_)
      · have hjl : j < n * size := by rw [← hrow.1]; exact (List.getElem?_eq_some_iff.1 hj).1
        rw [hcell, ← hj, ← k7, List.getElem?_take, if_pos hjl, List.getElem?_drop, Array.getElem?_toList]
      · have hle : (n + m) * size ≤ cap * size := Nat.mul_le_mul_right _ hr
        refine ⟨?_, by simp [World.frozen?, k3]⟩
        rw [Nat.add_assoc, hcell, Array.getElem?_eq_getElem (by omega)]
        rfl
      · have hle : (n + m) * size ≤ cap * size := Nat.mul_le_mul_right _ hr
        obtain ⟨q1, q2, q3, q4, q5, q6⟩ := heap_setCells g news (off + n * size) w cur k3
        have hget : ∀ j, j < n * size → (setAll cur (off + n * size) news)[off + j]? = cur[off + j]? := fun j hj => by rw [setAll_get, if_neg (by omega)]
        have hold : Rowv (w.setCells g (off + n * size) news) B e size (.slice (some ⟨g, off, none⟩) n cap) n xs := ⟨hrow.1, .inr ⟨g, off, cap, _, rfl, k2, q1, k4, k5, by rw [setAll_size]; exact k6, by
          apply List.ext_getElem?
          intro j
          rw [List.getElem?_take, List.getElem?_drop, Array.getElem?_toList]
          by_cases hj : j < n * size
          · rw [if_pos hj, hget j hj, ← k7, List.getElem?_take, if_pos hj, List.getElem?_drop, Array.getElem?_toList]
          · rw [if_neg hj, List.getElem?_eq_none (by rw [hrow.1]; omega)]⟩⟩
        refine hK _ _ ⟨by rw [List.length_append, hrow.1, hn, hmul], .inr ⟨g, off, cap, _, rfl, k2, q1, hr, k5, by rw [setAll_size]; exact k6, ?_⟩⟩ hold ⟨q4, q5, q6, by rw [q3]; exact Nat.le_refl _, fun k _ hk => q2 k fun h => hk (by rw [h]; rfl)⟩ (.inl ⟨_, cap, rfl, rfl⟩)
        apply List.ext_getElem?
        intro j
        rw [List.getElem?_take, List.getElem?_drop, Array.getElem?_toList, setAll_get]
        by_cases hj : j < (n + m) * size
        · rw [if_pos hj]
          by_cases hj2 : j < n * size
          · rw [if_neg (by omega), List.getElem?_append_left (by rw [hrow.1]; exact hj2), ← k7, List.getElem?_take, if_pos hj2, List.getElem?_drop, Array.getElem?_toList]
          · rw [if_pos (by omega), List.getElem?_append_right (by rw [hrow.1]; omega), hrow.1]
            congr 1
            omega
        · rw [if_neg hj, List.getElem?_eq_none (by rw [List.length_append, hrow.1, hn]; omega)]
      · have hr := Rowv.of_own hown
        have hb : ∀ k, v'.ownBlock = some k → w.heap.size ≤ k := fun k hk => (hr.lt hk).1
        refine hK v' w' (hr.base fun k hk => Nat.le_trans hB (hb k hk)) (hrow.keepLt fun k _ hk _ => hgr.block k hk fun h => nomatch h) ⟨hgr.os, hgr.tape, hgr.output, hgr.size, fun k h _ => hgr.block k h (fun h => nomatch h)⟩ ?_
        rcases hown.2 with ⟨rfl, h⟩ | ⟨g', cap', cur', rfl, hb', _⟩
        · omega
        · exact .inr ⟨g', rfl, hb'⟩
end
end Go.Proofs.Ytfbbmnlebibplaa
