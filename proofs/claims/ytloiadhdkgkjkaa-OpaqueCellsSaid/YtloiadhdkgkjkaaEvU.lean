/- events.table by contract. -/
import Derived.Test.YtloiadhdkgkjkaaEvT
namespace Go.Proofs.Ytloiadhdkgkjkaa
open Go.RowKit Go.ChangeMaps
set_option maxHeartbeats 4000000
set_option linter.unusedVariables false
set_option linter.unusedSimpArgs false

def esA : Array MapEntry := #[⟨.int .i64 1, .int .i64 1, 0⟩, ⟨.int .i64 10, .int .i64 0, 1⟩, ⟨.int .i64 11, .int .i64 0, 2⟩, ⟨.int .i64 9, .int .i64 3, 3⟩, ⟨.int .i64 12, .int .i64 3, 4⟩]
def esB : Array MapEntry := #[⟨.int .i64 2, .int .i64 1, 0⟩, ⟨.int .i64 3, .int .i64 1, 1⟩, ⟨.int .i64 4, .int .i64 1, 2⟩, ⟨.int .i64 5, .int .i64 2, 3⟩, ⟨.int .i64 6, .int .i64 0, 4⟩, ⟨.int .i64 7, .int .i64 0, 5⟩, ⟨.int .i64 8, .int .i64 0, 6⟩, ⟨.int .i64 9, .int .i64 3, 7⟩]
def bornA (j : Nat) : Nat := if j = 1 then 0 else if j = 10 then 1 else if j = 11 then 2 else if j = 9 then 3 else if j = 12 then 4 else 100
def bornB (j : Nat) : Nat := if 2 ≤ j ∧ j ≤ 9 then j - 2 else 100
def gA (seen : Array Nat) (j : Nat) : Value := if j < 13 ∧ seen.contains (bornA j) = true then .int .i64 (tb 0 j) else .int .i64 0
def gB (seen : Array Nat) (j : Nat) : Value := if j < 13 then .int .i64 (tb 0 j) else if j < 26 ∧ seen.contains (bornB (j - 13)) = true then .int .i64 (tb 1 ((j - 13 : Nat) : Int)) else .int .i64 0
def gT (j : Nat) : Value := if j = 2 * 13 + 6 then .int .i64 1 else if j < 13 then .int .i64 (tb 0 j) else if j < 26 then .int .i64 (tb 1 ((j - 13 : Nat) : Int)) else .int .i64 0
theorem left_zero {es : Array MapEntry} {seen : Array Nat} (h : (leftOf es seen).size = 0) {x : MapEntry} (hx : x ∈ es.toList) : seen.contains x.born = true := by
  cases hc : seen.contains x.born with
  | true => rfl
  | false =>
    have : x ∈ (leftOf es seen).toList := by unfold leftOf; simp; exact ⟨by simpa using hx, by simpa using hc⟩
    rw [Array.eq_empty_of_size_eq_zero h] at this
    simp at this
theorem gA_zero : ofF 52 (gA #[]) = ofF 52 (fun _ => .int .i64 0) := ofF_congr fun j _ => by unfold gA; simp
theorem gA_done {seen : Array Nat} (h : (leftOf esA seen).size = 0) (h5 : seen.contains 100 = false) : ofF 52 (gA seen) = ofF 52 (gB #[]) := ofF_congr fun j hj => by
  have hc : ∀ x ∈ esA.toList, seen.contains x.born = true := fun x hx => left_zero h hx
  simp only [esA, List.forall_mem_cons] at hc
  obtain ⟨c0, c1, c2, c3, c4, -⟩ := hc
  unfold gA gB bornA
  by_cases h13 : j < 13
  · have : j = 0 ∨ j = 1 ∨ j = 2 ∨ j = 3 ∨ j = 4 ∨ j = 5 ∨ j = 6 ∨ j = 7 ∨ j = 8 ∨ j = 9 ∨ j = 10 ∨ j = 11 ∨ j = 12 := by omega
    rcases this with rfl | rfl | rfl | rfl | rfl | rfl | rfl | rfl | rfl | rfl | rfl | rfl | rfl
    all_goals simp_all [tb]
  · simp [h13]
theorem gB_done {seen : Array Nat} (h : (leftOf esB seen).size = 0) (h5 : seen.contains 100 = false) : ofF 52 (fun j => if j = 2 * 13 + 6 then .int .i64 1 else gB seen j) = ofF 52 gT := ofF_congr fun j hj => by
  have hc : ∀ x ∈ esB.toList, seen.contains x.born = true := fun x hx => left_zero h hx
  simp only [esB, List.forall_mem_cons] at hc
  obtain ⟨c0, c1, c2, c3, c4, c5, c6, c7, -⟩ := hc
  unfold gB gT bornB
  by_cases h26 : 13 ≤ j ∧ j < 26
  · obtain ⟨k, rfl⟩ : ∃ k, j = 13 + k := ⟨j - 13, by omega⟩
    have : k = 0 ∨ k = 1 ∨ k = 2 ∨ k = 3 ∨ k = 4 ∨ k = 5 ∨ k = 6 ∨ k = 7 ∨ k = 8 ∨ k = 9 ∨ k = 10 ∨ k = 11 ∨ k = 12 := by omega
    rcases this with rfl | rfl | rfl | rfl | rfl | rfl | rfl | rfl | rfl | rfl | rfl | rfl | rfl
    all_goals simp_all [tb]
  · by_cases h13 : j < 13
    · simp [h13]
    · rw [if_neg h13, if_neg h13, if_neg (show ¬ (j < 26 ∧ _) from fun h => h26 ⟨by omega, h.1⟩), if_neg (show ¬ j < 26 by omega)]
theorem gT_eq {s : St} {m : Nat → Option Nat} {tv : Value} {j : Nat} (hj : j < 52) : gT j = gL s m tv j := by
  unfold gT gL
  rw [if_pos hj]
  have h0 : ∀ k : Nat, tb 2 k = if k = 6 then 1 else 0 := fun k => by unfold tb; simp; norm_cast
  have h3 : ∀ k : Nat, tb 3 k = 0 := fun k => by unfold tb; simp
  by_cases h1 : j < 13
  · rw [if_neg (by omega), if_pos h1, show j / 13 = 0 by omega, show j % 13 = j by omega]
  · by_cases h2 : j < 26
    · rw [if_neg (by omega), if_neg h1, if_pos h2, show j / 13 = 1 by omega, show j % 13 = j - 13 by omega]
    · by_cases h4 : j < 39
      · rw [show j / 13 = 2 by omega, show j % 13 = j - 26 by omega, h0]
        by_cases h5 : j = 2 * 13 + 6
        · rw [if_pos h5, if_pos (by omega)]; rfl
        · rw [if_neg h5, if_neg h1, if_neg h2, if_neg (by omega)]; rfl
      · rw [show j / 13 = 3 by omega, h3, if_neg (by omega), if_neg h1, if_neg h2]; rfl
end Go.Proofs.Ytloiadhdkgkjkaa
