/- A key's slot: plain. -/
import Derived.Test.YtkjeobcfaolcaaaDoorIxC
namespace Go.Proofs.YtkjeobcfaolcaaaDoor
open Go.RowKit
set_option maxHeartbeats 4000000
set_option linter.unusedVariables false
set_option linter.unusedSimpArgs false

/-- the way from slot i on: slot and number asked; U: used, K: key -/
def lgo (U : Nat → Bool) (K : Nat → Int) (key : Int) (sl : Nat) : Nat → Nat → Nat → Option (Nat × Nat)
  | 0, _, _ => none
  | f + 1, i, n => if (U i && K i != key) = true then lgo U K key sl f ((i + 1) % sl) (n + 1) else some (i, n)
/-- cells of sl slots of three cells -/
def SlotsAt (w : World) (g sl : Nat) (U : Nat → Bool) (K : Nat → Int) : Prop :=
  ∀ i, i < sl → w.cell? ⟨g, i * 3, none⟩ = some (.bool (U i)) ∧ w.cell? ⟨g, i * 3 + 1, none⟩ = some (.int .u64 (K i))
def intOf : Value → Int | .int _ q => q | _ => 0
theorem bit_next {k i : Nat} (hk : k ≤ 62) (hi : i < 2 ^ k) : bits .and .i64 ((i : Int) + 1) (((2 ^ k : Nat) : Int) - 1) = (((i + 1) % 2 ^ k : Nat) : Int) := by
  have hq : 2 ^ k ≤ 2 ^ 62 := Nat.pow_le_pow_right (by omega) hk
  have h0 := Nat.two_pow_pos k
  have h := bits_and_i64_nat (i + 1) (2 ^ k - 1) (by omega) (by omega)
  rw [Nat.and_two_pow_sub_one_eq_mod] at h
  rw [← h]
  congr 1
  omega
end Go.Proofs.YtkjeobcfaolcaaaDoor
