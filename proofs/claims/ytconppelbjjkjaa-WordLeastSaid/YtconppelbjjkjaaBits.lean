/- Plain facts on the bits of words of 32 and 64 binary digits, at the highest one. No program in sight. -/
import Derived.Laws.BitsAllLaws
import Derived.Laws.BitsLemmas
namespace Go.Proofs.Ytconppelbjjkjaa
theorem nxor_high (i x : Nat) (hx : x < 2 ^ i * 2) : x ^^^ 2 ^ i = if x < 2 ^ i then x + 2 ^ i else x - 2 ^ i := by
  have hp : 0 < 2 ^ i := Nat.two_pow_pos i
  have h1 : (x ^^^ 2 ^ i) / 2 ^ i = x / 2 ^ i ^^^ 1 := by rw [Nat.xor_div_two_pow, Nat.div_self hp]
  have h2 : (x ^^^ 2 ^ i) % 2 ^ i = x % 2 ^ i := by rw [Nat.xor_mod_two_pow, Nat.mod_self]; simp
  have h3 := Nat.div_add_mod (x ^^^ 2 ^ i) (2 ^ i)
  have h4 := Nat.div_add_mod x (2 ^ i)
  rw [h1, h2] at h3
  by_cases h : x < 2 ^ i
  · rw [if_pos h]
    rw [Nat.div_eq_of_lt h] at h3
    rw [Nat.mod_eq_of_lt h] at h3
    simp at h3
    omega
  · rw [if_neg h]
    have hd : x / 2 ^ i = 1 := by
      have := (Nat.div_lt_iff_lt_mul hp).2 (show x < 2 * 2 ^ i by omega)
      have := (Nat.le_div_iff_mul_le hp).2 (show 1 * 2 ^ i ≤ x by omega)
      omega
    rw [hd] at h3 h4
    simp at h3
    rw [Nat.mul_one] at h4
    omega

theorem nnot (n x : Nat) (hx : x < 2 ^ n) : (2 ^ n - 1) ^^^ x = 2 ^ n - 1 - x := by
  have h := BitVec.toNat_not (x := BitVec.ofNat n x)
  rw [← BitVec.allOnes_xor, BitVec.toNat_xor, BitVec.toNat_allOnes, BitVec.toNat_ofNat, Nat.mod_eq_of_lt hx] at h
  exact h

theorem u64_xor_high (x : Int) (h0 : 0 ≤ x) (h1 : x ≤ 18446744073709551615) : bits .xor .u64 x 9223372036854775808 = if x < 9223372036854775808 then x + 9223372036854775808 else x - 9223372036854775808 := by
  obtain ⟨n, rfl⟩ := Int.eq_ofNat_of_zero_le h0
  have := u64_xor_nat n 9223372036854775808 (by omega) (by omega)
  rw [show ((9223372036854775808 : Nat) : Int) = 9223372036854775808 from rfl] at this
  rw [this, show (9223372036854775808 : Nat) = 2 ^ 63 from rfl, nxor_high 63 n (by omega)]
  split <;> split <;> omega

theorem u64_not (x : Int) (h0 : 0 ≤ x) (h1 : x ≤ 18446744073709551615) : bits .xor .u64 18446744073709551615 x = 18446744073709551615 - x := by
  obtain ⟨n, rfl⟩ := Int.eq_ofNat_of_zero_le h0
  have := u64_xor_nat 18446744073709551615 n (by omega) (by omega)
  rw [show ((18446744073709551615 : Nat) : Int) = 18446744073709551615 from rfl] at this
  rw [this, show (18446744073709551615 : Nat) = 2 ^ 64 - 1 from rfl, nnot 64 n (by omega)]
  omega

theorem u64_or_high (x : Int) (h0 : 0 ≤ x) (h1 : x < 9223372036854775808) : bits .or .u64 x 9223372036854775808 = x + 9223372036854775808 := by
  obtain ⟨n, rfl⟩ := Int.eq_ofNat_of_zero_le h0
  have := u64_or_nat n 9223372036854775808 (by omega) (by omega)
  rw [show ((9223372036854775808 : Nat) : Int) = 9223372036854775808 from rfl] at this
  rw [this, Nat.or_comm, nat_join 63 9223372036854775808 n (by decide) (by omega)]
  omega

theorem u64_and_high (x : Int) (h0 : 0 ≤ x) (h1 : x ≤ 18446744073709551615) : (bits .and .u64 x 9223372036854775808 != 0) = decide (9223372036854775808 ≤ x) := by
  obtain ⟨n, rfl⟩ := Int.eq_ofNat_of_zero_le h0
  have := u64_and_nat n 9223372036854775808 (by omega) (by omega)
  rw [show ((9223372036854775808 : Nat) : Int) = 9223372036854775808 from rfl] at this
  rw [this, show (9223372036854775808 : Nat) = 2 ^ 63 from rfl, nat_bit]
  by_cases h : 9223372036854775808 ≤ n
  · have e : n / 2 ^ 63 % 2 = 1 := by omega
    have : (9223372036854775808 : Int) ≤ n := by omega
    simp [this, e]
  · have e : n / 2 ^ 63 % 2 = 0 := by omega
    have : ¬ (9223372036854775808 : Int) ≤ n := by omega
    simp [this, e]

theorem u64_clear_high (x : Int) (h0 : 9223372036854775808 ≤ x) (h1 : x ≤ 18446744073709551615) : bits .andNot .u64 x 9223372036854775808 = x - 9223372036854775808 := by
  obtain ⟨n, rfl⟩ := Int.eq_ofNat_of_zero_le (show 0 ≤ x by omega)
  have := u64_andNot_nat n 9223372036854775808 (by omega) (by omega)
  rw [show ((9223372036854775808 : Nat) : Int) = 9223372036854775808 from rfl] at this
  rw [this, show (18446744073709551615 - 9223372036854775808 : Nat) = 2 ^ 63 - 1 from rfl, Nat.and_two_pow_sub_one_eq_mod]
  omega

theorem u32_xor_high (x : Int) (h0 : 0 ≤ x) (h1 : x ≤ 4294967295) : bits .xor .u32 x 2147483648 = if x < 2147483648 then x + 2147483648 else x - 2147483648 := by
  obtain ⟨n, rfl⟩ := Int.eq_ofNat_of_zero_le h0
  have := u32_xor_nat n 2147483648 (by omega) (by omega)
  rw [show ((2147483648 : Nat) : Int) = 2147483648 from rfl] at this
  rw [this, show (2147483648 : Nat) = 2 ^ 31 from rfl, nxor_high 31 n (by omega)]
  split <;> split <;> omega

theorem u64_join (x y : Int) (h0 : 0 ≤ x) (h1 : x ≤ 18446744073709551615) (hm : x % 4294967296 = 0) (h2 : 0 ≤ y) (h3 : y < 4294967296) : bits .or .u64 x y = x + y := by
  obtain ⟨n, rfl⟩ := Int.eq_ofNat_of_zero_le h0
  obtain ⟨m, rfl⟩ := Int.eq_ofNat_of_zero_le h2
  rw [u64_or_nat n m (by omega) (by omega), nat_join 32 n m (by omega) (by omega)]
  omega
end Go.Proofs.Ytconppelbjjkjaa
