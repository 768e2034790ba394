/- Put, by contract (a table of int). -/
import Derived.Test.YtkjeobcfaolcaaaDoorIxGI
import Derived.Test.YtkjeobcfaolcaaaDoorIxJS
import Derived.Test.YtkjeobcfaolcaaaDoorWl
import Derived.Deep.RegionHeld
namespace Go.Proofs.YtkjeobcfaolcaaaDoor
open Go.RowKit
set_option maxHeartbeats 4000000
set_option linter.unusedVariables false
set_option linter.unusedSimpArgs false

/-- sl slots: used, key, value -/
def SltI (w : World) (g sl : Nat) (U : Nat → Bool) (K : Nat → Int) (X : Nat → Value) : Prop :=
  ∃ cs, Blk w g 81 cs ∧ ∀ i, i < sl → cs[i * 3]? = some (.bool (U i)) ∧ cs[i * 3 + 1]? = some (.int .u64 (K i)) ∧ cs[i * 3 + 2]? = some (X i)
theorem SltI.at_ {w : World} {g sl : Nat} {U : Nat → Bool} {K : Nat → Int} {X : Nat → Value} (h : SltI w g sl U K X) : SlotsAt w g sl U K := by
  obtain ⟨cs, hb, hc⟩ := h
  intro i hi
  obtain ⟨h1, h2, _⟩ := hc i hi
  exact ⟨(Blk.cell hb _).trans h1, (Blk.cell hb _).trans h2⟩
theorem SltI.val {w : World} {g sl : Nat} {U : Nat → Bool} {K : Nat → Int} {X : Nat → Value} (h : SltI w g sl U K X) {i : Nat} (hi : i < sl) : w.cell? ⟨g, i * 3 + 2, none⟩ = some (X i) ∧ ∀ n, w.frozen? ⟨g, n, none⟩ = false := by
  obtain ⟨cs, hb, hc⟩ := h
  exact ⟨(Blk.cell hb _).trans (hc i hi).2.2, fun n => Blk.frozen hb n⟩
set_option maxRecDepth 100000 in
theorem putI_had {t g k fuel j m cz : Nat} {key : Int} {U : Nat → Bool} {K : Nat → Int} {X : Nat → Value} {c1 : Value} {w : World} {x y : Int} (hT : Tab w) (ht : Blk w t 73 #[.slice (some ⟨g, 0, none⟩) (2 ^ k : Nat) cz, c1])
    (hS : SltI w g (2 ^ k) U K X) (h1 : 1 ≤ k) (h2 : k ≤ 62) (hf : fuel ≤ 4611686018427387904) (hl : lgo U K key (2 ^ k) fuel (homeOf key k).toNat 1 = some (j, m)) (hj : j < 2 ^ k) (hu : U j = true) (hx : X j = .int .i64 x) :
    Calls Tryd.prog 15 #[.pointer (some ⟨t, 0, none⟩), .int .u64 key, .int .i64 y] w fun e w' => e = .returned (.tuple #[.int .i64 x, .bool true, .int .i64 0]) ∧ w' = (w.alloc (.cells #[.pointer (some ⟨t, 0, none⟩)] 32)).setCell ⟨g, j * 3 + 2, none⟩ (.int .i64 y) := by
  have S1 : SltI (w.alloc (.cells #[.pointer (some ⟨t, 0, none⟩)] 32)) g (2 ^ k) U K X := by obtain ⟨cs, hb, hc⟩ := hS; exact ⟨cs, hb.alloc _, hc⟩
  have B1 := Blk.alloc ht (.cells #[.pointer (some ⟨t, 0, none⟩)] 32)
  have C := Lib.hid (lookI_b (hT.alloc _) B1 S1.at_ h1 h2 hf hl)
  have d0 := B1.cell 0
  have hjl : decide (j < 2 ^ k) = true := decide_eq_true hj
  have d0 : (w.alloc (.cells #[.pointer (some ⟨t, 0, none⟩)] 32)).cell? ⟨t, 0, none⟩ = some (.slice (some ⟨g, 0, none⟩) (2 ^ k : Nat) cz) := d0
  have M := Lib.hid (madeI_b (c1 := c1) d0)
  have dU := (S1.at_ j hj).1
  obtain ⟨dX, dz⟩ := S1.val hj
  rw [hu] at dU
  rw [hx] at dX
  have dz := dz (j * 3 + 2)
  clear hT ht hS hf hl B1 S1 hu hx
  generalize 2 ^ k = sl at *
  go_enter Tryd.func15, Tryd.ntmps15
  go_wp2_with fail
  refine M.out.mono ?_
  rintro _ w2 ⟨rfl, rfl⟩
  go_wp2_with fail
  refine C.out.mono ?_
  rintro _ w2 ⟨rfl, rfl⟩
  go_wp2
  go_ret3
  exact ⟨rfl, rfl⟩
end Go.Proofs.YtkjeobcfaolcaaaDoor
