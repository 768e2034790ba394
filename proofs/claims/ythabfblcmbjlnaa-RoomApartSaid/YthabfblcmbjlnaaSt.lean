/- Words that are got and put, as plain data: what each get and put answers, what stands behind it. No program in sight. -/
import Derived.Test.YthabfblcmbjlnaaKit
namespace Go.Proofs.Ythabfblcmbjlnaa
open Go.RowKit

/-- words; how many more gets and puts go well; the error behind them; how many there were -/
structure St where
  W : List Int
  left : Int
  code : Int
  calls : Int

def sget (s : St) (a : Int) : Int × Int × St :=
  if s.left = 0 then (0, s.code, { s with calls := wrap64 (s.calls + 1) })
  else if (s.W.length : Int) ≤ a then (0, 4, { s with calls := wrap64 (s.calls + 1), left := wrap64 (s.left - 1) })
  else (s.W.getD a.toNat 0, 0, { s with calls := wrap64 (s.calls + 1), left := wrap64 (s.left - 1) })

def sput (s : St) (a x : Int) : Int × St :=
  if s.left = 0 then (s.code, { s with calls := wrap64 (s.calls + 1) })
  else if (s.W.length : Int) ≤ a then (4, { s with calls := wrap64 (s.calls + 1), left := wrap64 (s.left - 1) })
  else (0, { s with calls := wrap64 (s.calls + 1), left := wrap64 (s.left - 1), W := s.W.set a.toNat x })

/-- every word is one of 64 digits; the numbers fit -/
structure Fits (s : St) : Prop where
  words : ∀ x ∈ s.W, 0 ≤ x ∧ x ≤ 18446744073709551615
  len : (s.W.length : Int) ≤ 9223372036854775807
  code : -9223372036854775808 ≤ s.code ∧ s.code ≤ 9223372036854775807

theorem sget_fits {s : St} (h : Fits s) (a : Int) : Fits (sget s a).2.2 := by
  unfold sget; split
  · exact ⟨h.words, h.len, h.code⟩
  · split <;> exact ⟨h.words, h.len, h.code⟩
theorem sget_word {s : St} (h : Fits s) (a : Int) : 0 ≤ (sget s a).1 ∧ (sget s a).1 ≤ 18446744073709551615 := by
  unfold sget; split
  · simp
  · split
    · simp
    · simp only
      by_cases hl : a.toNat < s.W.length
      · rw [List.getD_eq_getElem?_getD, List.getElem?_eq_getElem hl]; exact h.words _ (List.getElem_mem hl)
      · rw [List.getD_eq_getElem?_getD, List.getElem?_eq_none (by omega)]; simp
theorem sput_fits {s : St} (h : Fits s) (a x : Int) (hx : 0 ≤ x ∧ x ≤ 18446744073709551615) : Fits (sput s a x).2 := by
  unfold sput; split
  · exact ⟨h.words, h.len, h.code⟩
  · split
    · exact ⟨h.words, h.len, h.code⟩
    · refine ⟨fun y hy => ?_, by simpa using h.len, h.code⟩
      rcases List.mem_or_eq_of_mem_set hy with h1 | h1
      · exact h.words y h1
      · rw [h1]; exact hx
theorem sget_len (s : St) (a : Int) : (sget s a).2.2.W.length = s.W.length := by
  unfold sget; split
  · rfl
  · split <;> rfl
theorem sput_len (s : St) (a x : Int) : (sput s a x).2.W.length = s.W.length := by
  unfold sput; split
  · rfl
  · split
    · rfl
    · simp

/-- The document's world lies at block b, its words in block g. -/
def Wld (w : World) (b g cap : Nat) (s : St) : Prop :=
  Blk w b 27 #[.slice (some ⟨g, 0, none⟩) s.W.length cap, .int .i64 s.left, .int .i64 s.code, .int .i64 s.calls] ∧
    ∃ cur, Blk w g 31 cur ∧ ∀ i, i < s.W.length → cur[i]? = some (.int .u64 (s.W.getD i 0))

section
variable {w w' : World} {b g cap : Nat} {s : St}
theorem Wld.ne (h : Wld w b g cap s) : b ≠ g := by
  obtain ⟨h1, cur, h2, _⟩ := h
  exact Blk.ne_ h1 h2 (by decide)
theorem Wld.lt (h : Wld w b g cap s) : b < w.heap.size ∧ g < w.heap.size := by
  obtain ⟨h1, cur, h2, _⟩ := h
  exact ⟨h1.lt, h2.lt⟩
theorem Wld.words (h : Wld w b g cap s) (i : Nat) (hi : i < s.W.length) : w.cell? ⟨g, i, none⟩ = some (.int .u64 (s.W.getD i 0)) ∧ w.frozen? ⟨g, i, none⟩ = false := by
  obtain ⟨h1, cur, h2, h3⟩ := h
  exact ⟨(h2.cell i).trans (h3 i hi), h2.frozen i⟩
theorem Wld.mod {b' g' : Nat} (h : Wld w b g cap s) (hm : Mod b' g' w w') (h1 : b ≠ b') (h2 : b ≠ g') (h3 : g ≠ b') (h4 : g ≠ g') : Wld w' b g cap s := by
  obtain ⟨k1, cur, k2, k3⟩ := h
  exact ⟨hm.blk k1 h1 h2, cur, hm.blk k2 h3 h4, k3⟩
theorem Wld.calls (h : Wld w b g cap s) (n : Int) : Wld (w.setCell ⟨b, 3, none⟩ (.int .i64 n)) b g cap { s with calls := n } := by
  have hne := h.ne
  obtain ⟨k1, cur, k2, k3⟩ := h
  exact ⟨k1.set_ 3 _, cur, k2.far (fun e => hne e.symm) _, k3⟩
theorem Wld.left (h : Wld w b g cap s) (n : Int) : Wld (w.setCell ⟨b, 1, none⟩ (.int .i64 n)) b g cap { s with left := n } := by
  have hne := h.ne
  obtain ⟨k1, cur, k2, k3⟩ := h
  exact ⟨k1.set_ 1 _, cur, k2.far (fun e => hne e.symm) _, k3⟩
theorem Wld.word (h : Wld w b g cap s) (i : Nat) (x : Int) (hi : i < s.W.length) : Wld (w.setCell ⟨g, i, none⟩ (.int .u64 x)) b g cap { s with W := s.W.set i x } := by
  have hne := h.ne
  obtain ⟨k1, cur, k2, k3⟩ := h
  refine ⟨by simpa using k1.far hne _, _, k2.set_ i _, fun j hj => ?_⟩
  have hl : i < cur.size := by
    have := k3 i hi
    exact (Array.getElem?_eq_some_iff.1 this).1
  simp only [List.length_set] at hj
  rw [Array.getElem?_setIfInBounds]
  by_cases e : i = j
  · subst e
    simp [hl, List.getD_eq_getElem?_getD, hi]
  · rw [if_neg e, k3 j hj]
    simp [List.getD_eq_getElem?_getD, e]
end
end Go.Proofs.Ythabfblcmbjlnaa
