/- The examples' calls on plain words. -/
import Derived.Test.YthabfblcmbjlnaaRoomFn
namespace Go.Proofs.Ythabfblcmbjlnaa
open Go.RowKit
/-- the examples' calls, one after another, on plain words -/
@[irreducible] def wk0 : St := ⟨List.replicate 100 0, -1, 0, 0⟩
@[irreducible] def wk1 : St := (rLay wk0 0 20 30).2
@[irreducible] def wk2 : St := (rTake wk1 0 4).2.2
@[irreducible] def wk3 : St := (rTake wk2 0 4).2.2
@[irreducible] def wk4 : St := (rTake wk3 0 4).2.2
@[irreducible] def wk5 : St := (rLeft wk4 0).2.2
@[irreducible] def wk6 : St := (rGive wk5 0 20 4).2
@[irreducible] def wk7 : St := (rGive wk6 0 24 4).2
@[irreducible] def wk8 : St := (rGiven wk7 0 4).2.2
theorem trip {α β γ : Type} {p : α × β × γ} {a : α} {b : β} {c : γ} (h1 : p.1 = a) (h2 : p.2.1 = b) (h3 : p.2.2 = c) : p = (a, b, c) := Prod.ext h1 (Prod.ext h2 h3)
theorem twin {α β : Type} {p : α × β} {a : α} {b : β} (h1 : p.1 = a) (h2 : p.2 = b) : p = (a, b) := Prod.ext h1 h2
theorem wk1_e : rLay wk0 0 20 30 = (0, wk1) := twin (by decide +kernel) (by rw [wk1])
theorem wk2_e : rTake wk1 0 4 = (20, 0, wk2) := trip (by decide +kernel) (by decide +kernel) (by rw [wk2])
theorem wk3_e : rTake wk2 0 4 = (24, 0, wk3) := trip (by decide +kernel) (by decide +kernel) (by rw [wk3])
theorem wk4_e : rTake wk3 0 4 = (0, 9, wk4) := trip (by decide +kernel) (by decide +kernel) (by rw [wk4])
theorem wk5_e : rLeft wk4 0 = (2, 0, wk5) := trip (by decide +kernel) (by decide +kernel) (by rw [wk5])
theorem wk6_e : rGive wk5 0 20 4 = (0, wk6) := twin (by decide +kernel) (by rw [wk6])
theorem wk7_e : rGive wk6 0 24 4 = (0, wk7) := twin (by decide +kernel) (by rw [wk7])
theorem wk8_e : rGiven wk7 0 4 = ([24, 20], 0, wk8) := trip (by decide +kernel) (by decide +kernel) (by rw [wk8])
theorem wk0_e : wk0 = ⟨List.replicate 100 0, -1, 0, 0⟩ := by rw [wk0]
theorem fits_wk0 : Fits wk0 := by rw [wk0_e]; exact ⟨fun x hx => by rw [List.eq_of_mem_replicate hx]; omega, by decide, by decide⟩
end Go.Proofs.Ythabfblcmbjlnaa
