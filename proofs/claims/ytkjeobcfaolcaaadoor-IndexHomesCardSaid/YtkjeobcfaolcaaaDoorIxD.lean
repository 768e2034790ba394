/- The document's home, by contract. -/
import Derived.Test.YtkjeobcfaolcaaaDoorIxC
namespace Go.Proofs.YtkjeobcfaolcaaaDoor
open Go.RowKit
set_option maxHeartbeats 2000000
set_option linter.unusedVariables false
set_option linter.unusedSimpArgs false

theorem pow_le62 {b : Nat} (h : b ≤ 62) : 2 ^ b ≤ 4611686018427387904 := Nat.le_trans (Nat.pow_le_pow_right (by omega) h) (by decide)
theorem pow_ge8 {b : Nat} (h : 3 ≤ b) : 8 ≤ 2 ^ b := Nat.le_trans (show 8 ≤ 2 ^ 3 by decide) (Nat.pow_le_pow_right (by decide) h)
theorem rHome_yes {key : Int} {k : Nat} {w : World} (h1 : 3 ≤ k) (h2 : k ≤ 62) : Calls Tryd.prog 10 #[.int .u64 key, .int .i64 ((2 ^ k : Nat) : Int)] w fun e w' => e = .returned (.tuple #[.int .i64 (homeOf key k), .int .i64 0]) ∧ w = w' := by
  have hbd := homeOf_bd key (show 1 ≤ k by omega) h2
  have hq := pow_le62 h2
  have hq2 : (2 : Int) ^ k ≤ 4611686018427387904 := by
    have : 2 ^ k ≤ 2 ^ 62 := Nat.pow_le_pow_right (by omega) h2
    have h3 : ((2 ^ k : Nat) : Int) ≤ ((2 ^ 62 : Nat) : Int) := by omega
    simpa using h3
  have hwr : wrap64 (IntKind.u64.wrap (key * 11400714819323198485) / 2 ^ (64 - k)) = IntKind.u64.wrap (key * 11400714819323198485) / 2 ^ (64 - k) := by
    show wrap64 (homeOf key k) = homeOf key k
    exact IntWalk.wrap64_in _ (by omega)
  have hwr := Lib.hid hwr
  have hS : Hid (∀ b, b < k → (2 ^ b : Nat) < 2 ^ k) := Lib.hid fun b hb => Nat.pow_lt_pow_right (by decide) hb
  have h8 := pow_ge8 h1
  have hhe : Hid (homeOf key k = IntKind.u64.wrap (key * 11400714819323198485) / 2 ^ (64 - k)) := Lib.hid rfl
  clear hbd hq2
  obtain ⟨sl, hsl⟩ : ∃ sl, 2 ^ k = sl := ⟨_, rfl⟩
  rw [hsl] at hS hq h8 ⊢
  have hsl := Lib.hid hsl
  go_enter Tryd.func10, Tryd.ntmps10
  go_wp2
  go_loopg [6, 7] (k - 3) (fun gk c6 c7 wr => ∃ b p : Nat, gk + b = k ∧ 3 ≤ b ∧ Hid (2 ^ b = p) ∧ c6 = .int .i64 (p : Int) ∧ c7 = .int .i64 (b : Int) ∧ wr = w)
  case atStart => exact ⟨3, 8, by omega, by omega, Lib.hid rfl, rfl, rfl, rfl⟩
  case round =>
    obtain ⟨b, p, hgk, hb3, hp, rfl, rfl, rfl⟩ := hrel
    by_cases hbk : b < k
    · have hlt := hS.out b hbk
      rw [hp.out] at hlt
      have z1 : decide (p < sl) = true := decide_eq_true hlt
      have z1' : decide ((p : Int) < (sl : Int)) = true := decide_eq_true (by omega)
      have z2 : decide ((b : Int) < 62) = true := decide_eq_true (by omega)
      have hpl : (p : Int) ≤ 4611686018427387904 := by omega
      have hb62 : (b : Int) ≤ 61 := by omega
      obtain ⟨g, rfl⟩ : ∃ g, gk = g + 1 := ⟨gk - 1, by omega⟩
      have hp2 : Hid (2 ^ (b + 1) = 2 * p) := Lib.hid (by rw [Nat.pow_succ, hp.out]; omega)
      go_wp2
      go_roundg g
      case measure => omega
      case rel => exact ⟨b + 1, 2 * p, by omega, by omega, hp2, by first | rfl | go_num | (simp; rfl), by first | rfl | go_num | (simp; rfl), rfl⟩
    · obtain rfl : b = k := by omega
      obtain rfl : p = sl := hp.out.symm.trans hsl.out
      have z1 : decide (p < p) = false := decide_eq_false (by omega)
      have hb62 : (b : Int) ≤ 62 := by omega
      have hb3' : (3 : Int) ≤ b := by omega
      go_wp2
      go_ret2
      refine ⟨?_, rfl⟩
      rw [hhe.out]
      first | rfl | (rw [← hwr.out]; rfl) | (simp [hwr.out])
theorem rHome_no {key s : Int} {w : World} (h1 : -9223372036854775808 ≤ s) (h2 : s ≤ 9223372036854775807) (hn : ∀ k, ¬ isSlots s k) : Calls Tryd.prog 10 #[.int .u64 key, .int .i64 s] w fun e w' => e = .returned (.tuple #[.int .i64 0, .int .i64 2]) ∧ w = w' := by
  have hn := Lib.hid hn
  go_enter Tryd.func10, Tryd.ntmps10
  go_wp2
  go_loopg [6, 7] 59 (fun gk c6 c7 wr => ∃ b p : Nat, gk + b = 62 ∧ 3 ≤ b ∧ Hid (2 ^ b = p) ∧ c6 = .int .i64 (p : Int) ∧ c7 = .int .i64 (b : Int) ∧ wr = w)
  case atStart => exact ⟨3, 8, by omega, by omega, Lib.hid rfl, rfl, rfl, rfl⟩
  case round =>
    obtain ⟨b, p, hgk, hb3, hp, rfl, rfl, rfl⟩ := hrel
    have hpl := pow_le62 (show b ≤ 62 by omega)
    rw [hp.out] at hpl
    have hpl' : (p : Int) ≤ 4611686018427387904 := by omega
    have hne : ((p : Int) != s) = true := by
      simp only [bne_iff_ne, ne_eq]
      intro e
      exact hn.out b ⟨hb3, by omega, by rw [hp.out]; exact e.symm⟩
    by_cases hlt : (p : Int) < s
    · have z1 : decide ((p : Int) < s) = true := decide_eq_true hlt
      by_cases hb : b < 62
      · have z2 : decide ((b : Int) < 62) = true := decide_eq_true (by omega)
        obtain ⟨g, rfl⟩ : ∃ g, gk = g + 1 := ⟨gk - 1, by omega⟩
        have hp2 : Hid (2 ^ (b + 1) = 2 * p) := Lib.hid (by rw [Nat.pow_succ, hp.out]; omega)
        have hb62 : (b : Int) ≤ 61 := by omega
        have hq61 := pow_le62 (show b + 1 ≤ 62 by omega)
        rw [hp2.out] at hq61
        have hq61 : (2 * p : Int) ≤ 4611686018427387904 := by omega
        have hwp : wrap64 (2 * (p : Int)) = ((2 * p : Nat) : Int) := by rw [IntWalk.wrap64_in _ (by omega)]; rfl
        go_wp2
        go_roundg g
        case measure => omega
        case rel => exact ⟨b + 1, 2 * p, by omega, by omega, hp2, by first | rfl | go_num | (simp [hwp]), by first | rfl | go_num | (simp; rfl), rfl⟩
      · have z2 : decide ((b : Int) < 62) = false := decide_eq_false (by omega)
        go_wp2
        go_ret2
        exact ⟨rfl, rfl⟩
    · have z1 : decide ((p : Int) < s) = false := decide_eq_false hlt
      go_wp2
      go_ret2
      exact ⟨rfl, rfl⟩
end Go.Proofs.YtkjeobcfaolcaaaDoor
