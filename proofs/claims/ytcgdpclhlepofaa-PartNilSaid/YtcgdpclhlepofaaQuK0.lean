/- The document's small queue, on plain words. -/
import Derived.Test.YtcgdpclhlepofaaQueueFn
namespace Go.Proofs.Ytcgdpclhlepofaa
open Go.RowKit
theorem trip {α β γ : Type} {p : α × β × γ} {a : α} {b : β} {c : γ} (h1 : p.1 = a) (h2 : p.2.1 = b) (h3 : p.2.2 = c) : p = (a, b, c) := Prod.ext h1 (Prod.ext h2 h3)
theorem quad {α β γ δ : Type} {p : α × β × γ × δ} {a : α} {b : β} {c : γ} {d : δ} (h1 : p.1 = a) (h2 : p.2.1 = b) (h3 : p.2.2.1 = c) (h4 : p.2.2.2 = d) : p = (a, b, c, d) := Prod.ext h1 (Prod.ext h2 (Prod.ext h3 h4))
theorem twin {α β : Type} {p : α × β} {a : α} {b : β} (h1 : p.1 = a) (h2 : p.2 = b) : p = (a, b) := Prod.ext h1 h2
/-- words with a room at 0, over the cells from 18 on -/
def laidSt (n : Nat) : St := { (rLay ⟨List.replicate n 0, -1, 0, 0⟩ 0 18 n).2 with calls := 0 }
@[irreducible] def kq1 : St := laidSt 60
@[irreducible] def kq2 : St := (qNew kq1 0).2.2
@[irreducible] def kq3 : St := (qPut kq2 0 18 5).2
@[irreducible] def kq4 : St := (qPut kq3 0 18 6).2
@[irreducible] def kq5 : St := (qTake kq4 0 18).2.2.2
@[irreducible] def kq6 : St := (qPut kq5 0 18 7).2
@[irreducible] def kq7 : St := (qWords kq6 18).2.2
@[irreducible] def kq8 : St := (qLen kq7 18).2.2
theorem kq1_e : laidSt 60 = kq1 := by rw [kq1]
theorem kq2_e : qNew kq1 0 = (18, 0, kq2) := trip (by decide +kernel) (by decide +kernel) (by rw [kq2])
theorem kq3_e : qPut kq2 0 18 5 = (0, kq3) := twin (by decide +kernel) (by rw [kq3])
theorem kq4_e : qPut kq3 0 18 6 = (0, kq4) := twin (by decide +kernel) (by rw [kq4])
theorem kq5_e : qTake kq4 0 18 = (5, true, 0, kq5) := quad (by decide +kernel) (by decide +kernel) (by decide +kernel) (by rw [kq5])
theorem kq6_e : qPut kq5 0 18 7 = (0, kq6) := twin (by decide +kernel) (by rw [kq6])
theorem kq7_e : qWords kq6 18 = ([6, 7], 0, kq7) := trip (by decide +kernel) (by decide +kernel) (by rw [kq7])
theorem kq8_e : qLen kq7 18 = (2, 0, kq8) := trip (by decide +kernel) (by decide +kernel) (by rw [kq8])
end Go.Proofs.Ytcgdpclhlepofaa
