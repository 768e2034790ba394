/- Home, by the program and by the document, by contract. -/
import Derived.Test.YtkjeobcfaolcaaaDoorIxB
import Derived.Deep.LoopGhost
import Derived.WalkMore
namespace Go.Proofs.YtkjeobcfaolcaaaDoor
open Go.RowKit
set_option maxHeartbeats 2000000
set_option linter.unusedVariables false
set_option linter.unusedSimpArgs false

theorem pow_of_and : ∀ (n s : Nat), s ≤ n → 0 < s → s &&& (s - 1) = 0 → ∃ k, s = 2 ^ k
  | 0, s, h, h0, _ => by omega
  | n + 1, s, h, h0, ha => by
    have hd : s / 2 &&& (s - 1) / 2 = 0 := by rw [← Nat.and_div_two, ha]
    by_cases he : s % 2 = 0
    · have e : (s - 1) / 2 = s / 2 - 1 := by omega
      rw [e] at hd
      obtain ⟨k, hk⟩ := pow_of_and n (s / 2) (by omega) (by omega) hd
      exact ⟨k + 1, by rw [Nat.pow_succ]; omega⟩
    · have e : (s - 1) / 2 = s / 2 := by omega
      rw [e, Nat.and_self] at hd
      exact ⟨0, by simp; omega⟩
theorem and_of_pow (k : Nat) : 2 ^ k &&& (2 ^ k - 1) = 0 := by rw [Nat.and_two_pow_sub_one_eq_mod, Nat.mod_self]
theorem bits_and_i64_nat (a b : Nat) (ha : a < 9223372036854775808) (hb : b < 9223372036854775808) : bits .and .i64 (a : Int) (b : Int) = ((a &&& b : Nat) : Int) := by
  have hx : a &&& b < 2 ^ 63 := Nat.and_lt_two_pow _ (by omega)
  have h1 : (BitVec.ofInt 64 (a : Int)).toNat = a := by
    rw [BitVec.ofInt_natCast, BitVec.toNat_ofNat]; exact Nat.mod_eq_of_lt (by omega)
  have h2 : (BitVec.ofInt 64 (b : Int)).toNat = b := by
    rw [BitVec.ofInt_natCast, BitVec.toNat_ofNat]; exact Nat.mod_eq_of_lt (by omega)
  show IntKind.i64.wrap ((BitVec.ofInt 64 (a : Int) &&& BitVec.ofInt 64 (b : Int)).toNat : Int) = _
  rw [BitVec.toNat_and, h1, h2]
  exact IntWalk.i64_in _ (by omega)
/-- a number of slots -/
def isSlots (s : Int) (k : Nat) : Prop := 3 ≤ k ∧ k ≤ 62 ∧ s = ((2 ^ k : Nat) : Int)
theorem Home_yes {key : Int} {k : Nat} {w : World} (h1 : 3 ≤ k) (h2 : k ≤ 62) (hT : Tab w) : Calls Tryd.prog 9 #[.int .u64 key, .int .i64 ((2 ^ k : Nat) : Int)] w fun e w' => e = .returned (.tuple #[.int .i64 (homeOf key k), .int .i64 0]) ∧ w = w' := by
  have C := Lib.hid (home_b (key := key) (by omega) h2 hT)
  have hge : 8 ≤ 2 ^ k := Nat.le_trans (show 8 ≤ 2 ^ 3 by decide) (Nat.pow_le_pow_right (by decide) h1)
  have hm : 2 ^ k < 9223372036854775808 := Nat.lt_of_le_of_lt (Nat.pow_le_pow_right (by omega) h2) (by decide)
  have hb := bits_and_i64_nat (2 ^ k) (2 ^ k - 1) hm (by omega)
  rw [and_of_pow, show ((2 ^ k - 1 : Nat) : Int) = ((2 ^ k : Nat) : Int) - 1 by omega] at hb
  generalize 2 ^ k = sl at *
  have hs8 : decide ((sl : Int) < 8) = false := decide_eq_false (by omega)
  have hz : (bits BinOp.and .i64 (sl : Int) ((sl : Int) - 1) != 0) = false := by rw [hb]; rfl
  generalize homeOf key k = hm at *
  have hs1 : (8 : Int) ≤ sl := by omega
  have hs2 : (sl : Int) ≤ 9223372036854775807 := by omega
  clear hb hT hge
  go_enter Tryd.func9, Tryd.ntmps9
  go_wp2_with fail
  refine C.out.mono ?_
  rintro _ w2 ⟨rfl, rfl⟩
  go_wp2
  go_ret2
  exact ⟨rfl, rfl⟩
theorem Home_no {key s : Int} {w : World} (h1 : -9223372036854775808 ≤ s) (h2 : s ≤ 9223372036854775807) (hn : ∀ k, ¬ isSlots s k) : Calls Tryd.prog 9 #[.int .u64 key, .int .i64 s] w fun e w' => e = .returned (.tuple #[.int .i64 0, .int .i64 2]) ∧ w = w' := by
  by_cases h8 : s < 8
  · have hs8 : decide (s < 8) = true := decide_eq_true h8
    clear hn h8
    go_enter Tryd.func9, Tryd.ntmps9
    go_wp2
    go_ret2
    exact ⟨rfl, rfl⟩
  · obtain ⟨sl, rfl⟩ : ∃ sl : Nat, s = (sl : Int) := ⟨s.toNat, by omega⟩
    have hb := bits_and_i64_nat sl (sl - 1) (by omega) (by omega)
    rw [show ((sl - 1 : Nat) : Int) = (sl : Int) - 1 by omega] at hb
    have hz : (bits BinOp.and .i64 (sl : Int) ((sl : Int) - 1) != 0) = true := by
      rw [hb]
      simp only [bne_iff_ne, ne_eq]
      intro hc
      obtain ⟨k, hk⟩ := pow_of_and sl sl (Nat.le_refl _) (by omega) (by omega)
      refine hn k ⟨?_, ?_, by rw [hk]⟩
      · apply Nat.le_of_not_lt
        intro hlt
        have : 2 ^ k ≤ 2 ^ 2 := Nat.pow_le_pow_right (by decide) (by omega)
        omega
      · apply Nat.le_of_not_lt
        intro hlt
        have : 2 ^ 63 ≤ 2 ^ k := Nat.pow_le_pow_right (by decide) (by omega)
        omega
    have hs8 : decide ((sl : Int) < 8) = false := decide_eq_false h8
    have hs1 : (8 : Int) ≤ sl := by omega
    clear hb hn h8
    go_enter Tryd.func9, Tryd.ntmps9
    go_wp2
    go_ret2
    exact ⟨rfl, rfl⟩
end Go.Proofs.YtkjeobcfaolcaaaDoor
