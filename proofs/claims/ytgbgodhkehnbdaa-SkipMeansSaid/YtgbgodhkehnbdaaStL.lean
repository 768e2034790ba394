/- Cells that tell what was asked of them, as plain data: what each get and put answers, what stands behind it. No program in sight. -/
import Derived.Test.YtgbgodhkehnbdaaBase
namespace Go.Proofs.Ytgbgodhkehnbdaa
open Go.RowKit

/-- words; all that was asked; how many calls go well; the error behind them -/
structure St where
  W : List Int
  log : List (Bool × Int × Int)
  good : Int
  err : Int

def sask (s : St) (a : Bool × Int × Int) : Int × St :=
  if s.good < (s.log.length : Int) + 1 ∧ s.err ≠ 0 then (s.err, { s with log := s.log ++ [a] })
  else if (s.W.length : Int) ≤ a.2.1 then (4, { s with log := s.log ++ [a] })
  else (0, { s with log := s.log ++ [a] })

def sget (s : St) (a : Int) : Int × Int × St :=
  match sask s (false, a, 0) with
  | (e, s1) => if (e != 0) = false then (s1.W.getD a.toNat 0, 0, s1) else (0, e, s1)

def sput (s : St) (a x : Int) : Int × St :=
  match sask s (true, a, x) with
  | (e, s1) => if (e != 0) = false then (0, { s1 with W := s1.W.set a.toNat x }) else (e, s1)

/-- every word is one of 64 digits; the numbers fit -/
structure Fits (s : St) : Prop where
  words : ∀ x ∈ s.W, 0 ≤ x ∧ x ≤ 18446744073709551615
  len : (s.W.length : Int) ≤ 9223372036854775807
  code : -9223372036854775808 ≤ s.err ∧ s.err ≤ 9223372036854775807
/-- so many more may be told -/
def Bud (s : St) (n : Nat) : Prop := s.log.length + n ≤ 1099511627776
theorem Bud.mono {s : St} {n m : Nat} (h : Bud s m) (hn : n ≤ m) : Bud s n := by unfold Bud at *; omega

theorem sask_fits {s : St} (h : Fits s) (a : Bool × Int × Int) : Fits (sask s a).2 := by
  unfold sask; split
  · exact ⟨h.words, h.len, h.code⟩
  · split <;> exact ⟨h.words, h.len, h.code⟩
theorem sask_W (s : St) (a : Bool × Int × Int) : (sask s a).2.W = s.W := by
  unfold sask; split
  · rfl
  · split <;> rfl
theorem sask_log (s : St) (a : Bool × Int × Int) : (sask s a).2.log = s.log ++ [a] := by
  unfold sask; split
  · rfl
  · split <;> rfl
theorem sask_bud {s : St} {n : Nat} (h : Bud s (n + 1)) (a : Bool × Int × Int) : Bud (sask s a).2 n := by
  unfold Bud at *; rw [sask_log]; simp; omega
theorem sask_bd {s : St} (h : Fits s) (a : Bool × Int × Int) : -9223372036854775808 ≤ (sask s a).1 ∧ (sask s a).1 ≤ 9223372036854775807 := by
  have := h.code
  unfold sask; split
  · exact h.code
  · split <;> simp
theorem sask_in {s : St} (a : Bool × Int × Int) (h : ((sask s a).1 != 0) = false) : a.2.1 < (s.W.length : Int) := by
  unfold sask at h
  split at h
  · rename_i h1; simp at h; exact absurd h h1.2
  · split at h
    · cases h
    · omega
theorem getD_bd {l : List Int} (h : ∀ x ∈ l, 0 ≤ x ∧ x ≤ 18446744073709551615) (i : Nat) : 0 ≤ l.getD i 0 ∧ l.getD i 0 ≤ 18446744073709551615 := by
  by_cases hl : i < l.length
  · rw [List.getD_eq_getElem?_getD, List.getElem?_eq_getElem hl]; exact h _ (List.getElem_mem hl)
  · rw [List.getD_eq_getElem?_getD, List.getElem?_eq_none (by omega)]; simp
theorem sget_fits {s : St} (h : Fits s) (a : Int) : Fits (sget s a).2.2 := by
  unfold sget
  have := sask_fits h (false, a, 0)
  rcases hq : sask s (false, a, 0) with ⟨e, s1⟩
  rw [hq] at this
  simp only
  split <;> exact this
theorem sget_word {s : St} (h : Fits s) (a : Int) : 0 ≤ (sget s a).1 ∧ (sget s a).1 ≤ 18446744073709551615 := by
  unfold sget
  have := sask_fits h (false, a, 0)
  rcases hq : sask s (false, a, 0) with ⟨e, s1⟩
  rw [hq] at this
  simp only
  split
  · exact getD_bd this.words _
  · simp
theorem sget_bud {s : St} {n : Nat} (h : Bud s (n + 1)) (a : Int) : Bud (sget s a).2.2 n := by
  unfold sget
  have := sask_bud h (false, a, 0)
  rcases hq : sask s (false, a, 0) with ⟨e, s1⟩
  rw [hq] at this
  simp only
  split <;> exact this
theorem sput_fits {s : St} (h : Fits s) (a x : Int) (hx : 0 ≤ x ∧ x ≤ 18446744073709551615) : Fits (sput s a x).2 := by
  unfold sput
  have := sask_fits h (true, a, x)
  rcases hq : sask s (true, a, x) with ⟨e, s1⟩
  rw [hq] at this
  simp only
  split
  · refine ⟨fun y hy => ?_, by simpa using this.len, this.code⟩
    rcases List.mem_or_eq_of_mem_set hy with h1 | h1
    · exact this.words y h1
    · rw [h1]; exact hx
  · exact this
theorem sput_bud {s : St} {n : Nat} (h : Bud s (n + 1)) (a x : Int) : Bud (sput s a x).2 n := by
  unfold sput
  have := sask_bud h (true, a, x)
  rcases hq : sask s (true, a, x) with ⟨e, s1⟩
  rw [hq] at this
  simp only
  split <;> exact this

/-- the cells of what was asked -/
def logCells (l : List (Bool × Int × Int)) : List Value := l.flatMap fun p => [.bool p.1, .int .u64 p.2.1, .int .u64 p.2.2]
theorem logCells_append (l r : List (Bool × Int × Int)) : logCells (l ++ r) = logCells l ++ logCells r := by unfold logCells; simp
theorem logCells_length (l : List (Bool × Int × Int)) : (logCells l).length = l.length * 3 := by induction l with
  | nil => rfl
  | cons p l ih => rw [← List.singleton_append, logCells_append, List.length_append, ih]; simp [logCells]; omega
theorem logCells_one (l : List (Bool × Int × Int)) : ∀ u ∈ logCells l, u.oneCell' = true := by
  intro u hu
  unfold logCells at hu
  obtain ⟨p, _, hp⟩ := List.mem_flatMap.1 hu
  simp at hp
  rcases hp with rfl | rfl | rfl <;> rfl
theorem logCells_get : ∀ (l : List (Bool × Int × Int)) (i : Nat) (p : Bool × Int × Int), l[i]? = some p → (logCells l)[i * 3]? = some (.bool p.1) ∧ (logCells l)[i * 3 + 1]? = some (.int .u64 p.2.1) ∧ (logCells l)[i * 3 + 2]? = some (.int .u64 p.2.2)
  | q :: l, 0, p, h => by
    obtain rfl : q = p := by simpa using h
    exact ⟨rfl, rfl, rfl⟩
  | q :: l, i + 1, p, h => by
    have := logCells_get l i p (by simpa using h)
    have e : logCells (q :: l) = .bool q.1 :: .int .u64 q.2.1 :: .int .u64 q.2.2 :: logCells l := rfl
    rw [e, show (i + 1) * 3 = i * 3 + 1 + 1 + 1 by omega, show i * 3 + 1 + 1 + 1 + 1 = (i * 3 + 1) + 1 + 1 + 1 by omega, show i * 3 + 1 + 1 + 1 + 2 = (i * 3 + 2) + 1 + 1 + 1 by omega]
    simpa using this

/-! Where no call is refused. -/
/-- no call is refused, and so many more may be told -/
def Ok (s : St) (n : Nat) : Prop := s.err = 0 ∧ Bud s n
/-- behind one access -/
def gone (s : St) (p : Bool × Int × Int) : St := { s with log := s.log ++ [p] }
theorem Ok.mono {s : St} {n m : Nat} (h : Ok s m) (hn : n ≤ m) : Ok s n := ⟨h.1, h.2.mono hn⟩
theorem Ok.gone {s : St} {n : Nat} (h : Ok s (n + 1)) (p : Bool × Int × Int) : Ok (gone s p) n := ⟨h.1, by have := h.2; unfold Bud Go.Proofs.Ytgbgodhkehnbdaa.gone at *; simp; omega⟩
theorem Ok.setW {s : St} {n : Nat} (h : Ok s n) (W : List Int) : Ok { s with W := W } n := h
theorem gone_W (s : St) (p : Bool × Int × Int) : (gone s p).W = s.W := rfl
theorem sget_live {s : St} {n : Nat} (h : Ok s n) {a : Int} (ha : a < s.W.length) : sget s a = (s.W.getD a.toNat 0, 0, gone s (false, a, 0)) := by
  unfold sget sask
  rw [if_neg (fun h' => h'.2 h.1), if_neg (by show ¬ (s.W.length : Int) ≤ a; omega)]
  rfl
theorem sput_live {s : St} {n : Nat} (h : Ok s n) {a : Int} (ha : a < s.W.length) (x : Int) : sput s a x = (0, { gone s (true, a, x) with W := s.W.set a.toNat x }) := by
  unfold sput sask
  rw [if_neg (fun h' => h'.2 h.1), if_neg (by show ¬ (s.W.length : Int) ≤ a; omega)]
  rfl
/-- nothing was put -/
def Lk (s s' : St) : Prop := s'.W = s.W ∧ ∃ l, s'.log = s.log ++ l ∧ ∀ p ∈ l, p.1 = false
theorem Lk.refl (s : St) : Lk s s := ⟨rfl, [], by simp, by simp⟩
theorem Lk.trans {s s1 s2 : St} (h : Lk s s1) (k : Lk s1 s2) : Lk s s2 := by
  obtain ⟨h1, l, h2, h3⟩ := h
  obtain ⟨k1, m, k2, k3⟩ := k
  exact ⟨k1.trans h1, l ++ m, by rw [k2, h2, List.append_assoc], fun p hp => (List.mem_append.1 hp).elim (h3 p) (k3 p)⟩
theorem Lk.get (s : St) (a : Int) : Lk s (gone s (false, a, 0)) := ⟨rfl, [(false, a, 0)], rfl, by simp⟩
end Go.Proofs.Ytgbgodhkehnbdaa
