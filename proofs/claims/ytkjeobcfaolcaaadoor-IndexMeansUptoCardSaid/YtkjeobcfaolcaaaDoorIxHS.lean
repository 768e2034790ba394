/- Put, by contract (a table of texts). -/
import Derived.Test.YtkjeobcfaolcaaaDoorIxGS
import Derived.Test.YtkjeobcfaolcaaaDoorWl
import Derived.Deep.RegionHeld
namespace Go.Proofs.YtkjeobcfaolcaaaDoor
open Go.RowKit
set_option maxHeartbeats 4000000
set_option linter.unusedVariables false
set_option linter.unusedSimpArgs false

/-- sl slots: used, key, value -/
def Slt (w : World) (g sl : Nat) (U : Nat → Bool) (K : Nat → Int) (X : Nat → Value) : Prop :=
  ∃ cs, Blk w g 87 cs ∧ ∀ i, i < sl → cs[i * 3]? = some (.bool (U i)) ∧ cs[i * 3 + 1]? = some (.int .u64 (K i)) ∧ cs[i * 3 + 2]? = some (X i)
theorem Slt.at_ {w : World} {g sl : Nat} {U : Nat → Bool} {K : Nat → Int} {X : Nat → Value} (h : Slt w g sl U K X) : SlotsAt w g sl U K := by
  obtain ⟨cs, hb, hc⟩ := h
  intro i hi
  obtain ⟨h1, h2, _⟩ := hc i hi
  exact ⟨(Blk.cell hb _).trans h1, (Blk.cell hb _).trans h2⟩
theorem Slt.val {w : World} {g sl : Nat} {U : Nat → Bool} {K : Nat → Int} {X : Nat → Value} (h : Slt w g sl U K X) {i : Nat} (hi : i < sl) : w.cell? ⟨g, i * 3 + 2, none⟩ = some (X i) ∧ ∀ n, w.frozen? ⟨g, n, none⟩ = false := by
  obtain ⟨cs, hb, hc⟩ := h
  exact ⟨(Blk.cell hb _).trans (hc i hi).2.2, fun n => Blk.frozen hb n⟩
theorem lgo_lt {U : Nat → Bool} {K : Nat → Int} {key : Int} {sl : Nat} (h0 : 0 < sl) : ∀ (f i n j m : Nat), i < sl → lgo U K key sl f i n = some (j, m) → j < sl
  | 0, i, n, j, m, _, h => by simp [lgo] at h
  | f + 1, i, n, j, m, hi, h => by
    rw [lgo] at h
    split at h
    · exact lgo_lt h0 f _ _ j m (Nat.mod_lt _ h0) h
    · simp only [Option.some.injEq, Prod.mk.injEq] at h
      omega
theorem Tab.alloc {w : World} (h : Tab w) (o : Obj) : Tab (w.alloc o) := fun i hi => by
  have e := h i hi
  rw [World.cell?_alloc_some _ _ _ (by rw [e]; rfl)]
  exact e
set_option maxRecDepth 100000 in
theorem putS_had {t g k fuel j m cz : Nat} {key : Int} {U : Nat → Bool} {K : Nat → Int} {X : Nat → Value} {c1 : Value} {w : World} {x y : ByteArray} (hT : Tab w) (ht : Blk w t 77 #[.slice (some ⟨g, 0, none⟩) (2 ^ k : Nat) cz, c1])
    (hS : Slt w g (2 ^ k) U K X) (h1 : 1 ≤ k) (h2 : k ≤ 62) (hf : fuel ≤ 4611686018427387904) (hl : lgo U K key (2 ^ k) fuel (homeOf key k).toNat 1 = some (j, m)) (hj : j < 2 ^ k) (hu : U j = true) (hx : X j = .string x) :
    Calls Tryd.prog 16 #[.pointer (some ⟨t, 0, none⟩), .int .u64 key, .string y] w fun e w' => e = .returned (.tuple #[.string x, .bool true, .int .i64 0]) ∧ w' = (w.alloc (.cells #[.pointer (some ⟨t, 0, none⟩)] 34)).setCell ⟨g, j * 3 + 2, none⟩ (.string y) := by
  have S1 : Slt (w.alloc (.cells #[.pointer (some ⟨t, 0, none⟩)] 34)) g (2 ^ k) U K X := by obtain ⟨cs, hb, hc⟩ := hS; exact ⟨cs, hb.alloc _, hc⟩
  have B1 := Blk.alloc ht (.cells #[.pointer (some ⟨t, 0, none⟩)] 34)
  have C := Lib.hid (lookS_b (hT.alloc _) B1 S1.at_ h1 h2 hf hl)
  have d0 := B1.cell 0
  have hjl : decide (j < 2 ^ k) = true := decide_eq_true hj
  have d0 : (w.alloc (.cells #[.pointer (some ⟨t, 0, none⟩)] 34)).cell? ⟨t, 0, none⟩ = some (.slice (some ⟨g, 0, none⟩) (2 ^ k : Nat) cz) := d0
  have M := Lib.hid (madeS_b (c1 := c1) d0)
  have dU := (S1.at_ j hj).1
  obtain ⟨dX, dz⟩ := S1.val hj
  rw [hu] at dU
  rw [hx] at dX
  have dz := dz (j * 3 + 2)
  clear hT ht hS hf hl B1 S1 hu hx
  generalize 2 ^ k = sl at *
  go_enter Tryd.func16, Tryd.ntmps16
  go_wp2_with fail
  refine M.out.mono ?_
  rintro _ w2 ⟨rfl, rfl⟩
  go_wp2_with fail
  refine C.out.mono ?_
  rintro _ w2 ⟨rfl, rfl⟩
  go_wp2
  go_ret3
  exact ⟨rfl, rfl⟩
end Go.Proofs.YtkjeobcfaolcaaaDoor
