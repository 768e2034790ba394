/- Events in memory: their cells; two events compared; events.formed by contract. -/
import Derived.Test.YtloiadhdkgkjkaaBase
import Derived.Test.YtloiadhdkgkjkaaEvP
import Derived.Test.YtloiadhdkgkjkaaMix
import Derived.Laws.StructEq
import Derived.Laws.BitsAllLaws
import Derived.RegionTactic
namespace Go.Proofs.Ytloiadhdkgkjkaa
open Go.RowKit
set_option maxHeartbeats 4000000
set_option linter.unusedVariables false
set_option linter.unusedSimpArgs false

def encV (e : Ev) : List Value := [.int .i64 e.th, .int .i64 e.kd, .int .u64 e.ad, .int .u64 e.wd, .bool e.ow, .int .i64 e.er]
def evV (e : Ev) : Value := .agg #[.int .i64 e.th, .int .i64 e.kd, .int .u64 e.ad, .int .u64 e.wd, .bool e.ow, .int .i64 e.er]
theorem encV_len (e : Ev) : (encV e).length = 6 := rfl
theorem encV_one (e : Ev) : ∀ u ∈ encV e, u.oneCell' = true := by
  intro u hu
  simp only [encV, List.mem_cons, List.not_mem_nil, or_false] at hu
  rcases hu with rfl | rfl | rfl | rfl | rfl | rfl <;> rfl
theorem event_info : (Try.prog.info? 61).map (fun i => (i.zero, i.size, i.bytes)) = some (some (.agg #[.int .i64 0, .int .i64 0, .int .u64 0, .int .u64 0, .bool false, .int .i64 0]), 6, 48) := by kernel_rfl

/-- The numbers of an event are words of their kinds. -/
def EvWf (e : Ev) : Prop := (-9223372036854775808 ≤ e.th ∧ e.th ≤ 9223372036854775807) ∧ (-9223372036854775808 ≤ e.kd ∧ e.kd ≤ 9223372036854775807) ∧ (0 ≤ e.ad ∧ e.ad ≤ 18446744073709551615) ∧ (0 ≤ e.wd ∧ e.wd ≤ 18446744073709551615) ∧ (-9223372036854775808 ≤ e.er ∧ e.er ≤ 9223372036854775807)

def evq (a b : Ev) : Bool := a.th == b.th && a.kd == b.kd && a.ad == b.ad && a.wd == b.wd && a.ow == b.ow && a.er == b.er
theorem ev_equal (a b : Ev) (w : World) : (Op.equalIn 10000 61 (evV a) (evV b)).run Try.prog w = .ok (evq a b) w := by
  have h1 : Try.prog.underlying 61 = some _ := Try.underlying61
  have hi : ∀ (t : TypeId) (n m : Int) (k : IntKind) (d : Nat), Try.prog.underlying t = some (TypeDesc.int k) → (Op.equalIn (d + 1) t (.int k n) (.int k m)).run Try.prog w = .ok (n == m) w := fun t n m k d ht => run_equalIn_int w d t k k n m ht
  have hb : ∀ (t : TypeId) (n m : Bool) (d : Nat), Try.prog.underlying t = some TypeDesc.bool → (Op.equalIn (d + 1) t (.bool n) (.bool m)).run Try.prog w = .ok (n == m) w := fun t n m d ht => run_equalIn_bool w d t n m ht
  have hsi : Try.prog.stoodInHeld 61 = false := by kernel_rfl
  have u1 : Try.prog.underlying 3 = some _ := Try.underlying3
  have u2 : Try.prog.underlying 36 = some _ := Try.underlying36
  have u3 : Try.prog.underlying 35 = some _ := Try.underlying35
  have u4 : Try.prog.underlying 4 = some _ := Try.underlying4
  have u5 : Try.prog.underlying 26 = some _ := Try.underlying26
  have c1 : Try.prog.cellsOf 3 = 1 := by kernel_rfl
  have c2 : Try.prog.cellsOf 36 = 1 := by kernel_rfl
  have c3 : Try.prog.cellsOf 35 = 1 := by kernel_rfl
  have c4 : Try.prog.cellsOf 4 = 1 := by kernel_rfl
  have c5 : Try.prog.cellsOf 26 = 1 := by kernel_rfl
  have hd : 10000 = 9998 + 1 + 1 := rfl
  rw [hd]
  generalize 9998 = d at *
  obtain ⟨a0, a1, a2, a3, a4, a5⟩ := a
  obtain ⟨b0, b1, b2, b3, b4, b5⟩ := b
  unfold evV evq
  rw [Op.equalIn]
  simp [run_underlying h1, part, hi, hb, u1, u2, u3, u4, u5, c1, c2, c3, c4, c5, hsi, sizeOf, typeInfo]
  by_cases k0 : a0 = b0 <;> simp [k0]
  by_cases k1 : a1 = b1 <;> simp [k1]
  by_cases k2 : a2 = b2 <;> simp [k2]
  by_cases k3 : a3 = b3 <;> simp [k3]
  by_cases k4 : a4 = b4 <;> simp [k4]
  by_cases k5 : a5 = b5 <;> simp [k5]
theorem ev_eql (a b : Ev) (w : World) : (binOp .eql 61 (evV a) (evV b)).run Try.prog w = .ok (.bool (evq a b)) w := by
  have := run_eql_struct (P := Try.prog) w 61 #[.int .i64 a.th, .int .i64 a.kd, .int .u64 a.ad, .int .u64 a.wd, .bool a.ow, .int .i64 a.er] #[.int .i64 b.th, .int .i64 b.kd, .int .u64 b.ad, .int .u64 b.wd, .bool b.ow, .int .i64 b.er]
  have h2 := ev_equal a b w
  unfold evV at *
  rw [this, h2]
  rfl
theorem ev_neq (a b : Ev) (w : World) : (binOp .neq 61 (evV a) (evV b)).run Try.prog w = .ok (.bool (!evq a b)) w := by
  have := run_neq_struct (P := Try.prog) w 61 #[.int .i64 a.th, .int .i64 a.kd, .int .u64 a.ad, .int .u64 a.wd, .bool a.ow, .int .i64 a.er] #[.int .i64 b.th, .int .i64 b.kd, .int .u64 b.ad, .int .u64 b.wd, .bool b.ow, .int .i64 b.er]
  have h2 := ev_equal a b w
  unfold evV at *
  rw [this, h2]
  rfl

theorem u64_andNot1 (x : Int) (h0 : 0 ≤ x) (h1 : x ≤ 18446744073709551615) : bits .andNot .u64 x 1 = x - x % 2 := by
  obtain ⟨n, rfl⟩ := Int.eq_ofNat_of_zero_le h0
  have this : bits .andNot .u64 (n : Int) 1 = ((n &&& (18446744073709551615 - 1) : Nat) : Int) := u64_andNot_nat n 1 (by omega) (by omega)
  rw [this]
  have e : n &&& (18446744073709551615 - 1) = n - n % 2 := by
    apply Nat.eq_of_testBit_eq
    intro i
    rw [Nat.testBit_and]
    cases i with
    | zero =>
      have h1 : Nat.testBit (18446744073709551615 - 1) 0 = false := by decide
      have h2 : (n - n % 2).testBit 0 = false := by
        rw [Nat.testBit_zero]
        have : (n - n % 2) % 2 = 0 := by omega
        simp [this]
      rw [h1, h2, Bool.and_false]
    | succ i =>
      have h1 : Nat.testBit (18446744073709551615 - 1) (i + 1) = decide (i < 63) := by
        rw [Nat.testBit_succ, show (18446744073709551615 - 1) / 2 = 2 ^ 63 - 1 by decide, Nat.testBit_two_pow_sub_one]
      have h2 : (n - n % 2).testBit (i + 1) = n.testBit (i + 1) := by
        rw [Nat.testBit_succ, Nat.testBit_succ, show (n - n % 2) / 2 = n / 2 by omega]
      rw [h1, h2]
      by_cases hi : i < 63
      · simp [hi]
      · have : n.testBit (i + 1) = false := Nat.testBit_lt_two_pow (Nat.lt_of_lt_of_le (show n < 2 ^ 64 by omega) (Nat.pow_le_pow_right (by omega) (by omega)))
        simp [hi, this]
  rw [e]
  omega
end Go.Proofs.Ytloiadhdkgkjkaa
