/- The document's small set, on plain words. -/
import Derived.Test.YtgbgodhkehnbdaaSkipFn
namespace Go.Proofs.Ytgbgodhkehnbdaa
open Go.RowKit
theorem trip {α β γ : Type} {p : α × β × γ} {a : α} {b : β} {c : γ} (h1 : p.1 = a) (h2 : p.2.1 = b) (h3 : p.2.2 = c) : p = (a, b, c) := Prod.ext h1 (Prod.ext h2 h3)
theorem twin {α β : Type} {p : α × β} {a : α} {b : β} (h1 : p.1 = a) (h2 : p.2 = b) : p = (a, b) := Prod.ext h1 h2
@[irreducible] def kn0 : St := ⟨List.replicate 100 0, [], 0, 0⟩
@[irreducible] def kn1 : St := (rLay kn0 0 40 100).2
@[irreducible] def kn2 : St := (skLay kn1 20).2
@[irreducible] def kn3 : St := (skInsert kn2 0 20 7 1).2.2
@[irreducible] def kn4 : St := (skInsert kn3 0 20 3 2).2.2
@[irreducible] def kn5 : St := (skInsert kn4 0 20 7 5).2.2
@[irreducible] def kn6 : St := (skKeys kn5 20).2.2
theorem kn1_e : rLay kn0 0 40 100 = (0, kn1) := twin (by decide +kernel) (by rw [kn1])
theorem kn2_e : skLay kn1 20 = (0, kn2) := twin (by decide +kernel) (by rw [kn2])
theorem kn3_e : skInsert kn2 0 20 7 1 = (true, 0, kn3) := trip (by decide +kernel) (by decide +kernel) (by rw [kn3])
theorem kn4_e : skInsert kn3 0 20 3 2 = (true, 0, kn4) := trip (by decide +kernel) (by decide +kernel) (by rw [kn4])
theorem kn5_e : skInsert kn4 0 20 7 5 = (false, 0, kn5) := trip (by decide +kernel) (by decide +kernel) (by rw [kn5])
theorem kn6_e : skKeys kn5 20 = ([3, 7], 0, kn6) := trip (by decide +kernel) (by decide +kernel) (by rw [kn6])
theorem kn6_20 : kn6.W.getD 20 0 = 44 := by decide +kernel
theorem kn6_21 : kn6.W.getD 21 0 = 44 := by decide +kernel
theorem kn6_43 : (kn6.W.drop 43).take 4 = [3, 2, 41, 0] := by decide +kernel
theorem kn6_len : kn6.W.length = 100 := by decide +kernel
theorem kn0_e : kn0 = ⟨List.replicate 100 0, [], 0, 0⟩ := by rw [kn0]
theorem fits_kn0 : Fits kn0 := by rw [kn0_e]; exact ⟨fun x hx => by rw [List.eq_of_mem_replicate hx]; omega, by decide, by decide⟩
theorem bud_kn0 : Bud kn0 1000000 := by rw [kn0_e]; unfold Bud; simp
end Go.Proofs.Ytgbgodhkehnbdaa
