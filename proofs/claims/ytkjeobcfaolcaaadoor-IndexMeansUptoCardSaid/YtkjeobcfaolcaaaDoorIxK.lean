/- known, by contract. -/
import Derived.Test.YtkjeobcfaolcaaaDoorIxK0
import Derived.Test.YtkjeobcfaolcaaaDoorIxE
namespace Go.Proofs.YtkjeobcfaolcaaaDoor
open Go.RowKit
set_option maxHeartbeats 4000000
set_option linter.unusedVariables false
set_option linter.unusedSimpArgs false

def U0 : Nat → Bool := fun _ => false
def K0 : Nat → Int := fun _ => 0
def X0 : Nat → Value := fun _ => .string ⟨#[]⟩
theorem free8_slt {w : World} {g : Nat} (h : Blk w g 87 free8) : Slt w g (2 ^ 3) U0 K0 X0 := by
  refine ⟨_, h, fun i hi => ?_⟩
  match i, hi with
  | 0, _ => exact ⟨rfl, rfl, rfl⟩
  | 1, _ => exact ⟨rfl, rfl, rfl⟩
  | 2, _ => exact ⟨rfl, rfl, rfl⟩
  | 3, _ => exact ⟨rfl, rfl, rfl⟩
  | 4, _ => exact ⟨rfl, rfl, rfl⟩
  | 5, _ => exact ⟨rfl, rfl, rfl⟩
  | 6, _ => exact ⟨rfl, rfl, rfl⟩
  | 7, _ => exact ⟨rfl, rfl, rfl⟩
  | n + 8, hi => omega
def U1 : Nat → Bool := fun i => if i = 0 then true else U0 i
def K1 : Nat → Int := fun i => if i = 0 then 0 else K0 i
def U2 : Nat → Bool := fun i => if i = 1 then true else U1 i
def K2 : Nat → Int := fun i => if i = 1 then 5 else K1 i
theorem look_a : lgo U0 K0 0 (2 ^ 3) 9 (homeOf 0 3).toNat 1 = some (0, 1) := by kernel_rfl
theorem look_b : lgo U1 K1 5 (2 ^ 3) 9 (homeOf 5 3).toNat 1 = some (1, 2) := by kernel_rfl
theorem look_c : lgo U2 K2 0 (2 ^ 3) 9 (homeOf 0 3).toNat 1 = some (0, 1) := by kernel_rfl
theorem look_d : lgo U2 K2 5 (2 ^ 3) 9 (homeOf 5 3).toNat 1 = some (1, 2) := by kernel_rfl
theorem look_e : lgo U2 K2 2 (2 ^ 3) 9 (homeOf 2 3).toNat 1 = some (2, 2) := by kernel_rfl
theorem look_f : ∃ j, lgo U2 K2 8 (2 ^ 3) 9 (homeOf 8 3).toNat 1 = some (j, 1) := ⟨(homeOf 8 3).toNat, by kernel_rfl⟩
end Go.Proofs.YtkjeobcfaolcaaaDoor
