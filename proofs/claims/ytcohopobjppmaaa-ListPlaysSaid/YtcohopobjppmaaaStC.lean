/- The document's cells that are got and put, as plain data: what each get and put answers, what stands behind it. No program in sight. -/
import Derived.Test.YtcohopobjppmaaaBase
namespace Go.Proofs.Ytcohopobjppmaaa
open Go.RowKit
set_option linter.unusedVariables false

/-- words; how many gets and puts there were; from which access on they fail (below 0: never), by which error -/
structure St where
  W : List Int
  gets : Int
  puts : Int
  fail : Int
  err : Int
def fls (s : St) : Prop := 0 ≤ s.fail ∧ s.fail ≤ s.gets + s.puts
instance (s : St) : Decidable (fls s) := by unfold fls; exact inferInstance

def sget (s : St) (a : Int) : Int × Int × St :=
  if fls s then (0, s.err, { s with gets := s.gets + 1 })
  else if (s.W.length : Int) ≤ a then (0, 4, { s with gets := s.gets + 1 })
  else (s.W.getD a.toNat 0, 0, { s with gets := s.gets + 1 })

def sput (s : St) (a x : Int) : Int × St :=
  if fls s then (s.err, { s with puts := s.puts + 1 })
  else if (s.W.length : Int) ≤ a then (4, { s with puts := s.puts + 1 })
  else (0, { s with puts := s.puts + 1, W := s.W.set a.toNat x })

/-- every word is one of 64 digits; the numbers fit -/
structure Fits (s : St) : Prop where
  words : ∀ x ∈ s.W, 0 ≤ x ∧ x ≤ 18446744073709551615
  len : (s.W.length : Int) ≤ 9223372036854775807
  fail : -9223372036854775808 ≤ s.fail ∧ s.fail ≤ 9223372036854775807
  err : -9223372036854775808 ≤ s.err ∧ s.err ≤ 9223372036854775807
/-- so many more may come -/
def Bud (s : St) (n : Nat) : Prop := 0 ≤ s.gets ∧ 0 ≤ s.puts ∧ s.gets + s.puts + n ≤ 4611686018427387904
theorem Bud.mono {s : St} {n m : Nat} (h : Bud s m) (hn : n ≤ m) : Bud s n := by unfold Bud at *; omega

theorem getD_bd {l : List Int} (h : ∀ x ∈ l, 0 ≤ x ∧ x ≤ 18446744073709551615) (i : Nat) : 0 ≤ l.getD i 0 ∧ l.getD i 0 ≤ 18446744073709551615 := by
  by_cases hl : i < l.length
  · rw [List.getD_eq_getElem?_getD, List.getElem?_eq_getElem hl]; exact h _ (List.getElem_mem hl)
  · rw [List.getD_eq_getElem?_getD, List.getElem?_eq_none (by omega)]; simp
theorem sget_fits {s : St} (h : Fits s) (a : Int) : Fits (sget s a).2.2 := by
  unfold sget; split
  · exact ⟨h.words, h.len, h.fail, h.err⟩
  · split <;> exact ⟨h.words, h.len, h.fail, h.err⟩
theorem sget_word {s : St} (h : Fits s) (a : Int) : 0 ≤ (sget s a).1 ∧ (sget s a).1 ≤ 18446744073709551615 := by
  unfold sget; split
  · simp
  · split
    · simp
    · exact getD_bd h.words _
theorem sget_bud {s : St} {n : Nat} (h : Bud s (n + 1)) (a : Int) : Bud (sget s a).2.2 n := by
  unfold sget Bud at *; split
  · simp only; omega
  · split <;> (simp only; omega)
theorem sput_fits {s : St} (h : Fits s) (a x : Int) (hx : 0 ≤ x ∧ x ≤ 18446744073709551615) : Fits (sput s a x).2 := by
  unfold sput; split
  · exact ⟨h.words, h.len, h.fail, h.err⟩
  · split
    · exact ⟨h.words, h.len, h.fail, h.err⟩
    · refine ⟨fun y hy => ?_, by simpa using h.len, h.fail, h.err⟩
      rcases List.mem_or_eq_of_mem_set hy with h1 | h1
      · exact h.words y h1
      · rw [h1]; exact hx
theorem sput_bud {s : St} {n : Nat} (h : Bud s (n + 1)) (a x : Int) : Bud (sput s a x).2 n := by
  unfold sput Bud at *; split
  · simp only; omega
  · split <;> (simp only; omega)

/-! Where no call is refused. -/
/-- no call is refused, and so many more may come -/
def Ok (s : St) (n : Nat) : Prop := s.fail < 0 ∧ Bud s n
/-- behind one access -/
def gone (s : St) (p : Bool × Int × Int) : St := if p.1 = true then { s with puts := s.puts + 1 } else { s with gets := s.gets + 1 }
theorem Ok.mono {s : St} {n m : Nat} (h : Ok s m) (hn : n ≤ m) : Ok s n := ⟨h.1, h.2.mono hn⟩
theorem Ok.gone {s : St} {n : Nat} (h : Ok s (n + 1)) (p : Bool × Int × Int) : Ok (gone s p) n := by
  obtain ⟨h1, h2⟩ := h
  unfold Go.Proofs.Ytcohopobjppmaaa.gone
  unfold Bud at h2
  split
  · exact ⟨h1, by unfold Bud; simp only; omega⟩
  · exact ⟨h1, by unfold Bud; simp only; omega⟩
theorem Ok.setW {s : St} {n : Nat} (h : Ok s n) (W : List Int) : Ok { s with W := W } n := h
theorem gone_W (s : St) (p : Bool × Int × Int) : (gone s p).W = s.W := by unfold gone; split <;> rfl
theorem sget_live {s : St} {n : Nat} (h : Ok s n) {a : Int} (ha : a < s.W.length) : sget s a = (s.W.getD a.toNat 0, 0, gone s (false, a, 0)) := by
  unfold sget
  rw [if_neg (by unfold fls; have := h.1; omega), if_neg (by omega)]
  rfl
theorem sput_live {s : St} {n : Nat} (h : Ok s n) {a : Int} (ha : a < s.W.length) (x : Int) : sput s a x = (0, { gone s (true, a, x) with W := s.W.set a.toNat x }) := by
  unfold sput
  rw [if_neg (by unfold fls; have := h.1; omega), if_neg (by omega)]
  rfl
/-- the words stand as they stood -/
def Lk (s s' : St) : Prop := s'.W = s.W
theorem Lk.refl (s : St) : Lk s s := rfl
theorem Lk.trans {s s1 s2 : St} (h : Lk s s1) (k : Lk s1 s2) : Lk s s2 := Eq.trans k h
theorem Lk.get (s : St) (a : Int) : Lk s (gone s (false, a, 0)) := rfl
end Go.Proofs.Ytcohopobjppmaaa
