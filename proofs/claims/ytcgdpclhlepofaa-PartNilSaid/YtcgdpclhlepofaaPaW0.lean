/- The chapter's examples, on plain words. -/
import Derived.Test.YtcgdpclhlepofaaPaF
namespace Go.Proofs.Ytcgdpclhlepofaa
open Go.RowKit
@[irreducible] def kp1 : St := (fillSt [5, 6, 7]).2.2
@[irreducible] def kp2 : St := (pQueue 18 kp1).2.2.2
@[irreducible] def kp3 : St := (pRead 1 22 3 kp2).2.2
@[irreducible] def kp4 : St := (qWords kp3 18).2.2
@[irreducible] def kp5 : St := (pTurn dbl 1 22 3 kp4).2
@[irreducible] def kp6 : St := (pBack 18 1 22 3 kp5).2
@[irreducible] def kp7 : St := (qWords kp6 18).2.2
theorem kp1_a : (fillSt [5, 6, 7]).1 = 18 := by decide +kernel
theorem kp1_b : (fillSt [5, 6, 7]).2.1 = true := by decide +kernel
theorem kp1_c : kp1 = (fillSt [5, 6, 7]).2.2 := by kernel_rfl
theorem kp1_e : fillSt [5, 6, 7] = (18, true, kp1) := trip kp1_a kp1_b kp1_c.symm
theorem kp2_e : pQueue 18 kp1 = (22, 3, 0, kp2) := quad (by decide +kernel) (by decide +kernel) (by decide +kernel) (by rw [kp2])
theorem kp3_e : pRead 1 22 3 kp2 = ([5, 6, 7], 0, kp3) := trip (by decide +kernel) (by decide +kernel) (by rw [kp3])
theorem kp4_e : qWords kp3 18 = ([], 0, kp4) := trip (by decide +kernel) (by decide +kernel) (by rw [kp4])
theorem kp5_e : pTurn dbl 1 22 3 kp4 = (0, kp5) := twin (by decide +kernel) (by rw [kp5])
theorem kp6_e : pBack 18 1 22 3 kp5 = (0, kp6) := twin (by decide +kernel) (by rw [kp6])
theorem kp7_e : qWords kp6 18 = ([10, 12, 14], 0, kp7) := trip (by decide +kernel) (by decide +kernel) (by rw [kp7])
theorem kp0_e : (fillSt []).1 = 18 ∧ (fillSt []).2.1 = true := ⟨by decide +kernel, by decide +kernel⟩
end Go.Proofs.Ytcgdpclhlepofaa
