/- SkipMeans: an empty set in an empty room. No program in sight. -/
import Derived.Test.YtgbgodhkehnbdaaSkM4
namespace Go.Proofs.Ytgbgodhkehnbdaa
open Go.RowKit
set_option linter.unusedVariables false

theorem skLayGo_live : ∀ (m k : Nat) (s : St) (N : Nat), Ok s (N + m) → k + m = 8 → s.W.length = 2000 → (∀ j, j < 8 → s.W.getD (20 + j) 0 = 0) → ∃ s', skLayGo m 20 (k : Int) s = (0, s') ∧ Ok s' N ∧ s'.W.length = 2000 ∧ ∀ j, s'.W.getD j 0 = s.W.getD j 0
  | 0, k, s, N, h, _, hl, _ => ⟨s, rfl, h, hl, fun _ => rfl⟩
  | m + 1, k, s, N, h, hk, hl, hz => by
    have h' : Ok s ((N + m) + 1) := h
    have e1 : uAdd 20 (k : Int) = ((20 + k : Nat) : Int) := by rw [uAdd_id (by omega) (by omega)]; omega
    have same : ∀ j, (s.W.set (20 + k) 0).getD j 0 = s.W.getD j 0 := fun j => by
      rw [getD_set_]
      split
      · rename_i h1
        rw [← h1.1, hz k (by omega)]
      · rfl
    obtain ⟨s', g1, g2, g3, g4⟩ := skLayGo_live m (k + 1) { gone s (true, ((20 + k : Nat) : Int), 0) with W := s.W.set (20 + k) 0 } N ((h'.gone _).setW _) (by omega) (by simpa using hl) (fun j hj => by show (s.W.set (20 + k) 0).getD _ 0 = 0; rw [same]; exact hz j hj)
    refine ⟨s', ?_, g2, g3, fun j => by rw [g4]; exact same j⟩
    rw [skLayGo, e1, sput_live h' (by rw [hl]; omega)]
    simp only [bne_self_eq_false, if_true, Int.toNat_natCast]
    exact g1

def st0 : St := ⟨List.replicate 2000 0, [], 0, 0⟩
theorem st0_len : st0.W.length = 2000 := List.length_replicate
theorem st0_fits : Fits st0 := ⟨fun x hx => by rw [List.eq_of_mem_replicate hx]; omega, by rw [st0_len]; omega, ⟨by show (-9223372036854775808 : Int) ≤ 0; omega, by show (0 : Int) ≤ 9223372036854775807; omega⟩⟩
theorem set_start : ∃ s1, rLay st0 0 40 2000 = (0, s1) ∧ (Bud s1 100 → ∃ s2, skLay s1 20 = (0, s2) ∧ SetOk s2 [] 0) := by
  have h0 : ∀ j, (List.replicate 2000 (0 : Int)).getD j 0 = 0 := fun j => by rw [List.getD_eq_getElem?_getD, List.getElem?_replicate]; split <;> rfl
  have hO : Ok st0 (100 + 18) := ⟨rfl, by unfold Bud st0; simp⟩
  obtain ⟨s1, g1, g2, g3, g4⟩ := lay_ok (x := 40) (y := 2000) hO (by rw [st0_len]; omega) (by rw [st0_len]; omega) (by omega)
  refine ⟨s1, g1, fun hb => ?_⟩
  have hz : ∀ j, s1.W.getD j 0 = if j = 0 then 40 else if j = 1 then 2000 else 0 := fun j => by
    rw [g4]
    split
    · rfl
    · split
      · rfl
      · split
        · rfl
        · exact h0 j
  have hl : s1.W.length = 2000 := by rw [g3, st0_len]
  obtain ⟨s2, k1, k2, k3, k4⟩ := skLayGo_live 8 0 s1 0 ⟨g2.1, hb.mono (by omega)⟩ rfl hl (fun j hj => by rw [hz, if_neg (by omega), if_neg (by omega)])
  refine ⟨s2, k1, set_new (back := fun _ => []) (Rm.start (by omega) (by omega) (by rw [k3]; omega) fun j => by rw [k4, hz]) k3 (fun k hk => by rw [k4, hz, if_neg (by omega), if_neg (by omega)]) (by rw [k4, hz, if_pos rfl]) k2.1⟩
end Go.Proofs.Ytgbgodhkehnbdaa
