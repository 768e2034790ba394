/- Two lists of words compared; the errors' numbers. -/
import Derived.Test.YthabfblcmbjlnaaGiven2
import Derived.Deep.QuietTactic
import Derived.BigQuiet
namespace Go.Proofs.Ythabfblcmbjlnaa
open Go.RowKit
set_option maxHeartbeats 2000000
set_option linter.unusedVariables false

/-- The slice v is the list of words l. -/
def Lies (w : World) (v : Value) (l : List Int) : Prop := ∃ A cp, v = .slice A l.length cp ∧ ∀ j, j < l.length → ∃ g, A = some ⟨g, 0, none⟩ ∧ w.cell? ⟨g, j, none⟩ = some (.int .u64 (l.getD j 0))
theorem Own.lies {w : World} {B : Nat} {v : Value} {l : List Int} (h : Own w B v l) : Lies w v l := by
  obtain ⟨A, cp, rfl⟩ := h.shape
  exact ⟨A, cp, rfl, fun j hj => by obtain ⟨g, h1, _, _, h2, _⟩ := h.cell j hj; exact ⟨g, h1, h2⟩⟩
theorem Wld.lies {w : World} {b g cap : Nat} {s : St} (h : Wld w b g cap s) : Lies w (.slice (some ⟨g, 0, none⟩) s.W.length cap) s.W :=
  ⟨_, _, rfl, fun j hj => ⟨g, rfl, (h.words j hj).1⟩⟩

theorem Lies.drewN {w : World} {v : Value} {l : List Int} (h : Lies w v l) (n : Nat) : Lies (w.drewN n) v l := h
theorem drewN_drewN (w : World) (n m : Nat) : (w.drewN n).drewN m = w.drewN (n + m) := by simp [World.drewN, Nat.add_assoc]
theorem Txw.drewN {t b g cap : Nat} {s : St} {w : World} (h : Txw w t b g cap s) (n : Nat) : Txw (w.drewN n) t b g cap s := h

theorem words_b {va vb : Value} {l1 l2 : List Int} {w : World} (h1 : Lies w va l1) (h2 : Lies w vb l2) (hn : (l1.length : Int) ≤ 9223372036854775807) :
    Calls Try.prog 6 #[va, vb] w fun e w' => (∃ n, w' = w.drewN n) ∧ e = .returned (.bool (decide (l1 = l2))) := by
  obtain ⟨A1, c1, rfl, k1⟩ := h1
  obtain ⟨A2, c2, rfl, k2⟩ := h2
  by_cases hl : l1.length = l2.length
  · go_enter Try.func6, Try.ntmps6
    go_wp2
    go_loopg [5] l1.length (fun gk c5 wr => ∃ j nd : Nat, gk + j = l1.length ∧ c5 = .int .i64 (j : Int) ∧ wr = w.drewN nd ∧ ∀ i, i < j → l1.getD i 0 = l2.getD i 0)
    case atStart => exact ⟨0, 0, rfl, rfl, rfl, fun i hi => by omega⟩
    case round =>
      obtain ⟨j, nd, hj, rfl, rfl, hall⟩ := hrel
      rcases Nat.lt_or_ge j l1.length with hlt | hge
      · obtain ⟨g1, rfl, d1⟩ := k1 j hlt
        obtain ⟨g2, rfl, d2⟩ := k2 j (by omega)
        generalize hy1 : l1.getD j 0 = y1 at d1
        generalize hy2 : l2.getD j 0 = y2 at d2
        have b1 : (j : Int) < l1.length := by omega
        have b2 : (j : Int) < l2.length := by omega
        go_wp2
        go_quiet (fail)
        go_wp2
        · have hne : (y1 != y2) = true := by assumption
          go_ret
          refine ⟨⟨nd + nq, drewN_drewN _ _ _⟩, ?_⟩
          have e : decide (l1 = l2) = false := decide_eq_false fun h => by rw [h, hy2] at hy1; rw [hy1] at hne; simp at hne
          rw [e]; rfl
        · have heq : (y1 != y2) = false := by assumption
          have heq : y1 = y2 := by simpa using heq
          obtain ⟨k, rfl⟩ : ∃ k, gk = k + 1 := ⟨gk - 1, by omega⟩
          go_roundg k
          case measure => omega
          case rel => exact ⟨j + 1, nd + nq, by omega, by simp, rfl, fun i hi => by
            rcases Nat.lt_or_ge i j with h | h
            · exact hall i h
            · obtain rfl : i = j := by omega
              rw [hy1, hy2, heq]⟩
      · go_wp2
        go_ret
        refine ⟨⟨nd, rfl⟩, ?_⟩
        have : l1 = l2 := List.ext_getElem hl fun i h1 h2 => by
          have := hall i (by omega)
          rw [List.getD_eq_getElem?_getD, List.getElem?_eq_getElem h1, List.getD_eq_getElem?_getD, List.getElem?_eq_getElem h2] at this
          exact this
        rw [decide_eq_true this]; rfl
  · go_enter Try.func6, Try.ntmps6
    go_wp2
    go_ret
    have e : decide (l1 = l2) = false := decide_eq_false fun h => hl (by rw [h])
    exact ⟨⟨0, rfl⟩, by rw [e]; rfl⟩
end Go.Proofs.Ythabfblcmbjlnaa
