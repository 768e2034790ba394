/- A plain set of words, as a rising list. No program in sight. -/
import Derived.Test.YtgbgodhkehnbdaaSkM3
namespace Go.Proofs.Ytgbgodhkehnbdaa
open Go.RowKit
set_option linter.unusedVariables false

/-- where a word stands, or should -/
def lplace : List Int → Int → Nat
  | [], _ => 0
  | y :: r, x => if y < x then lplace r x + 1 else 0
def lthere (l : List Int) (x : Int) : Bool := decide (lplace l x < l.length) && (l.getD (lplace l x) 0 == x)
def lwith (l : List Int) (x : Int) : List Int := if lthere l x = true then l else l.take (lplace l x) ++ [x] ++ l.drop (lplace l x)
def lwithout (l : List Int) (x : Int) : List Int := l.filter (fun y => y != x)

theorem lplace_step (l : List Int) (j : Nat) (x : Int) (h : j < l.length) : lplace (l.drop j) x = if l.getD j 0 < x then lplace (l.drop (j + 1)) x + 1 else 0 := by
  rw [List.drop_eq_getElem_cons h, lplace, List.getD_eq_getElem?_getD, List.getElem?_eq_getElem h]
  rfl
theorem lplace_le : ∀ (l : List Int) (x : Int), lplace l x ≤ l.length
  | [], _ => Nat.le_refl _
  | y :: r, x => by
    rw [lplace]
    have := lplace_le r x
    split <;> simp <;> omega
theorem lwithout_take (l : List Int) (j : Nat) (x : Int) (h : j < l.length) : lwithout (l.take (j + 1)) x = if l.getD j 0 = x then lwithout (l.take j) x else lwithout (l.take j) x ++ [l.getD j 0] := by
  have e : l.take (j + 1) = l.take j ++ [l.getD j 0] := by rw [List.take_add_one, List.getD_eq_getElem?_getD, List.getElem?_eq_getElem h]; rfl
  rw [e]
  unfold lwithout
  rw [List.filter_append]
  by_cases hx : l.getD j 0 = x
  · rw [if_pos hx, hx]; simp
  · rw [if_neg hx]
    have : (l.getD j 0 != x) = true := bne_iff_ne.2 hx
    rw [List.filter_cons, if_pos this]
    rfl

/-- a rising list, and a word -/
theorem lplace_at {a b : List Int} {x : Int} (h1 : ∀ y ∈ a, y < x) (h2 : ∀ y ∈ b, x ≤ y) : lplace (a ++ b) x = a.length := by
  induction a with
  | nil =>
    cases b with
    | nil => rfl
    | cons y r => show (if y < x then _ else _) = _; rw [if_neg (by have := h2 y (by simp); omega)]; rfl
  | cons y r ih =>
    show (if y < x then lplace (r ++ b) x + 1 else 0) = _
    rw [if_pos (h1 y (by simp)), ih fun z hz => h1 z (by simp [hz])]
    rfl
theorem lthere_at {a b : List Int} {x : Int} (h1 : ∀ y ∈ a, y < x) (h2 : ∀ y ∈ b, x < y) : lthere (a ++ x :: b) x = true ∧ lplace (a ++ x :: b) x = a.length := by
  have hp := lplace_at (a := a) (b := x :: b) (x := x) h1 fun y hy => by
    rcases List.mem_cons.1 hy with rfl | hy
    · exact Int.le_refl _
    · exact Int.le_of_lt (h2 y hy)
  refine ⟨?_, hp⟩
  unfold lthere
  rw [hp]
  simp [List.getD_eq_getElem?_getD]
theorem lthere_off {a b : List Int} {x : Int} (h1 : ∀ y ∈ a, y < x) (h2 : ∀ y ∈ b, x < y) : lthere (a ++ b) x = false ∧ lplace (a ++ b) x = a.length := by
  have hp := lplace_at (a := a) (b := b) (x := x) h1 fun y hy => Int.le_of_lt (h2 y hy)
  refine ⟨?_, hp⟩
  unfold lthere
  rw [hp]
  cases b with
  | nil => simp
  | cons y r =>
    have := h2 y (by simp)
    have e : (a ++ y :: r).getD a.length 0 = y := by simp [List.getD_eq_getElem?_getD]
    rw [e, beq_false_of_ne (by omega), Bool.and_false]

theorem lwith_at {a b : List Int} {x : Int} (h1 : ∀ y ∈ a, y < x) (h2 : ∀ y ∈ b, x < y) : lwith (a ++ x :: b) x = a ++ x :: b := by
  unfold lwith; rw [if_pos (lthere_at h1 h2).1]
theorem lwith_off {a b : List Int} {x : Int} (h1 : ∀ y ∈ a, y < x) (h2 : ∀ y ∈ b, x < y) : lwith (a ++ b) x = a ++ x :: b := by
  obtain ⟨e1, e2⟩ := lthere_off h1 h2
  unfold lwith; rw [if_neg (by rw [e1]; simp), e2]
  simp
theorem lwithout_none {a : List Int} {x : Int} (h1 : ∀ y ∈ a, y ≠ x) : lwithout a x = a := by
  unfold lwithout
  rw [List.filter_eq_self]
  exact fun y hy => bne_iff_ne.2 (h1 y hy)
theorem lwithout_at {a b : List Int} {x : Int} (h1 : ∀ y ∈ a, y < x) (h2 : ∀ y ∈ b, x < y) : lwithout (a ++ x :: b) x = a ++ b := by
  have e1 := lwithout_none (a := a) (x := x) fun y hy => by have := h1 y hy; omega
  have e2 := lwithout_none (a := b) (x := x) fun y hy => by have := h2 y hy; omega
  unfold lwithout at *
  rw [List.filter_append, List.filter_cons]
  simp [e1, e2]
theorem lwithout_off {a b : List Int} {x : Int} (h1 : ∀ y ∈ a, y < x) (h2 : ∀ y ∈ b, x < y) : lwithout (a ++ b) x = a ++ b := lwithout_none fun y hy => by
  rcases List.mem_append.1 hy with hy | hy
  · have := h1 y hy; omega
  · have := h2 y hy; omega

/-- the nodes about a word -/
theorem nodes_at (x : Int) : ∀ (nodes : List Nd), (nodes.Pairwise fun a b => a.key < b.key) →
    (∃ pre nd post, nodes = pre ++ nd :: post ∧ nd.key = x ∧ (∀ m ∈ pre, m.key < x) ∧ ∀ m ∈ post, x < m.key) ∨ ∃ pre post, nodes = pre ++ post ∧ (∀ m ∈ pre, m.key < x) ∧ ∀ m ∈ post, x < m.key
  | [], _ => .inr ⟨[], [], rfl, (fun m h => nomatch h), (fun m h => nomatch h)⟩
  | nd :: r, h => by
    obtain ⟨h1, h2⟩ := List.pairwise_cons.1 h
    rcases Int.lt_trichotomy nd.key x with hx | hx | hx
    · rcases nodes_at x r h2 with ⟨pre, m, post, rfl, e1, e2, e3⟩ | ⟨pre, post, rfl, e2, e3⟩
      · refine .inl ⟨nd :: pre, m, post, rfl, e1, fun q hq => ?_, e3⟩
        rcases List.mem_cons.1 hq with rfl | hq
        · exact hx
        · exact e2 q hq
      · refine .inr ⟨nd :: pre, post, rfl, fun q hq => ?_, e3⟩
        rcases List.mem_cons.1 hq with rfl | hq
        · exact hx
        · exact e2 q hq
    · exact .inl ⟨[], nd, r, rfl, hx, (fun m h => nomatch h), fun m hm => by have := h1 m hm; omega⟩
    · refine .inr ⟨[], nd :: r, rfl, (fun m h => nomatch h), fun q hq => ?_⟩
      rcases List.mem_cons.1 hq with rfl | hq
      · exact hx
      · have := h1 q hq; omega
end Go.Proofs.Ytgbgodhkehnbdaa
