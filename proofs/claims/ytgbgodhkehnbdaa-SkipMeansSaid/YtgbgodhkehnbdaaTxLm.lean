/- Cells that tell what was asked of them, made by a call. -/
import Derived.Test.YtgbgodhkehnbdaaTxL
import Derived.Test.YtgbgodhkehnbdaaWl
namespace Go.Proofs.Ytgbgodhkehnbdaa
open Go.RowKit
theorem Txw.make {w : World} {g cp : Nat} {l : List Int} (h : Wl w (.slice (some ⟨g, 0, none⟩) l.length cp) l) (hc : l.length ≤ cp) (gd er : Int) :
    Txw (w.alloc (.cells #[.slice (some ⟨g, 0, none⟩) l.length cp, .slice none 0 0, .int .i64 gd, .int .i64 er] 32)) w.heap.size (fun k => k = w.heap.size ∨ k = g) ⟨l, [], gd, er⟩ := by
  obtain ⟨cur, k1, k2⟩ := h.blk
  refine ⟨g, cp, .slice none 0 0, Blk.new w _ _, ⟨cur, k1.alloc _, k2⟩, Rowv.nil _ _ _ _, hc, fun k => ⟨fun h => h.elim .inl fun h => .inr (.inl h), fun h => ?_⟩⟩
  rcases h with h | h | h
  · exact .inl h
  · exact .inr h
  · cases h
theorem Txw.lies {w : World} {t : Nat} {F : Nat → Prop} {s : St} (h : Txw w t F s) : ∃ g cap, w.cell? ⟨t, 0, none⟩ = some (.slice (some ⟨g, 0, none⟩) s.W.length cap) ∧ s.W.length ≤ cap ∧ (∀ i, i < s.W.length → w.cell? ⟨g, i, none⟩ = some (.int .u64 (s.W.getD i 0))) ∧
    ∀ o n, o + n ≤ s.W.length → Lies w (.slice (some ⟨g, o, none⟩) n (cap - o)) ((s.W.drop o).take n) := by
  obtain ⟨g, cap, c0, _, hc, hw⟩ := h.words
  refine ⟨g, cap, c0, hc, fun i hi => (hw i hi).1, fun o n hon => ⟨some ⟨g, o, none⟩, cap - o, by rw [List.length_take, List.length_drop, Nat.min_eq_left (by omega)], by rw [List.length_take, List.length_drop]; omega, (fun h => nomatch h), fun j hj => ⟨g, o, rfl, ?_⟩⟩⟩
  rw [List.length_take, List.length_drop] at hj
  rw [(hw (o + j) (by omega)).1]
  simp [List.getD_eq_getElem?_getD, show j < n by omega]
/-- what was asked is forgotten -/
theorem Txw.lt_own {w : World} {t : Nat} {F : Nat → Prop} {s : St} (h : Txw w t F s) : t < w.heap.size := h.lt t h.own
end Go.Proofs.Ytgbgodhkehnbdaa
