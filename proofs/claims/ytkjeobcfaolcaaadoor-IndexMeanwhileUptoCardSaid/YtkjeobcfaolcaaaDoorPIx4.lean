/- A key's slot, by contract (a table of uint64). -/
import Derived.ScopeJumps
import Derived.Deep.RegionHeld
import Derived.Test.YtkjeobcfaolcaaaDoorPIx1
import Derived.Test.YtkjeobcfaolcaaaDoorPIx2
import Derived.Test.YtkjeobcfaolcaaaDoorPIx3
namespace Go.Proofs.YtkjeobcfaolcaaaDoor
open Go.RowKit
set_option maxHeartbeats 4000000
set_option linter.unusedVariables false
set_option linter.unusedSimpArgs false

set_option maxRecDepth 100000 in
theorem lookW_b {t g k fuel j m cz : Nat} {key : Int} {U : Nat → Bool} {K : Nat → Int} {c1 : Value} {w : World} (hT : Tab w) (ht : Blk w t 96 #[.slice (some ⟨g, 0, none⟩) (2 ^ k : Nat) cz, c1])
    (hS : SlotsAt w g (2 ^ k) U K) (h1 : 1 ≤ k) (h2 : k ≤ 62) (hf : fuel ≤ 4611686018427387904) (hl : lgo U K key (2 ^ k) fuel (homeOf key k).toNat 1 = some (j, m)) :
    Calls Tryd.prog 70 #[.pointer (some ⟨t, 0, none⟩), .int .u64 key] w fun e w' => e = .returned (.tuple #[.int .i64 (j : Int), .int .i64 (m : Int)]) ∧ w = w' := by
  have C := home_b (key := key) h1 h2 hT
  have hbd := homeOf_bd key h1 h2
  obtain ⟨i0, hi0⟩ : ∃ i0 : Nat, homeOf key k = (i0 : Int) := ⟨(homeOf key k).toNat, by omega⟩
  have hlt0 : i0 < 2 ^ k := by
    have : ((2 ^ k : Nat) : Int) = (2 : Int) ^ k := by simp
    omega
  rw [hi0] at C hl
  have hl : lgo U K key (2 ^ k) fuel i0 1 = some (j, m) := hl
  have C := Lib.hid C
  have hbit := fun i => bit_next (k := k) (i := i) h2
  have hq : 2 ^ k ≤ 2 ^ 62 := Nat.pow_le_pow_right (by omega) h2
  have hq0 := Nat.two_pow_pos k
  have d0 : w.cell? ⟨t, 0, none⟩ = some (.slice (some ⟨g, 0, none⟩) (2 ^ k : Nat) cz) := by rw [Blk.cell ht]; rfl
  clear hT ht h1 h2 hbd hi0
  generalize 2 ^ k = sl at *
  have hS := Lib.hid hS
  have hbit := Lib.hid hbit
  go_enter Tryd.func70, Tryd.ntmps70
  go_wp2
  refine wp_scope_jumps 0 (fun a' w' => w' = w ∧ ∃ (f i n : Nat) (u8 u9 u10 u11 u12 u13 u14 u15 u16 u17 u18 u19 u20 u21 u22 u23 u24 u25 u26 u27 u28 u29 u30 u31 u32 u33 u34 u35 u36 u37 u38 u39 u40 u41 u42 u43 u44 u45 u46 : Value), a' = { tmps := #[.pointer (some ⟨t, 0, none⟩), .int .u64 key, undef, undef, .int .i64 0, .int .i64 0, .int .i64 (i : Int), .int .i64 (n : Int), u8, u9, u10, u11, u12, u13, u14, u15, u16, u17, u18, u19, u20, u21, u22, u23, u24, u25, u26, u27, u28, u29, u30, u31, u32, u33, u34, u35, u36, u37, u38, u39, u40, u41, u42, u43, u44, u45, u46], defers := [] } ∧ n + f = fuel + 1 ∧ i < sl ∧ lgo U K key sl f i n = some (j, m)) (fun a' _ => fuel + 1 - (intOf (a'.tmps.getD 7 undef)).toNat) rfl ?_ ?_
  · obtain ⟨i, hi0, hi⟩ : ∃ i, i = i0 ∧ i < sl := ⟨i0, rfl, hlt0⟩
    subst hi0
    obtain ⟨f, hff⟩ : ∃ f, f = fuel := ⟨_, rfl⟩
    obtain ⟨n, hnn⟩ : ∃ n, n = 1 := ⟨_, rfl⟩
    have hfn : n + f = fuel + 1 := by omega
    rw [← hff, ← hnn] at hl
    have hlg := hl
    clear hff hl hlt0
    subst hnn
    obtain ⟨f, rfl⟩ : ∃ f', f = f' + 1 := by
      cases f with
      | zero => simp [lgo] at hlg
      | succ f => exact ⟨f, rfl⟩
    obtain ⟨dU, dK⟩ := hS.out i hi
    have hb := hbit.out i hi
    have hi' : (i : Int) ≤ 4611686018427387903 := by omega
    have hn' : (1 : Int) ≤ 4611686018427387904 := by omega
    have hz : decide (i < sl) = true := decide_eq_true hi
    have hsl : (sl : Int) ≤ 4611686018427387904 := by omega
    rw [lgo] at hlg
    by_cases hp : (U i && K i != key) = true
    · rw [if_pos hp] at hlg
      simp only [Bool.and_eq_true] at hp
      obtain ⟨hu, hk⟩ := hp
      rw [hu] at dU
      have hlg := Lib.hid hlg
      go_wp2_with fail
      refine C.out.mono ?_
      rintro _ w2 ⟨rfl, rfl⟩
      go_wp2
      go_step3
      go_wp2
      go_step3
      rw [show ((i : Int) + 1) % (sl : Int) = (((i + 1) % sl : Nat) : Int) by simp]
      exact ⟨rfl, ⟨rfl, f, (i + 1) % sl, 1 + 1, _, _, _, _, _, _, _, _, _, _, _, _, _, _, _, _, _, _, _, _, _, _, _, _, _, _, _, _, _, _, _, _, _, _, _, _, _, _, _, rfl, by omega, Nat.mod_lt _ hq0, hlg.out⟩⟩
    · rw [if_neg hp] at hlg
      simp only [Option.some.injEq, Prod.mk.injEq] at hlg
      obtain ⟨rfl, rfl⟩ := hlg
      by_cases hu : U i = true
      · rw [hu] at dU
        have hk : (K i != key) = false := by rw [hu] at hp; simpa using hp
        go_wp2_with fail
        refine C.out.mono ?_
        rintro _ w2 ⟨rfl, rfl⟩
        go_wp2
        go_step3
        go_wp2
        simp only [Exit.jump]
        go_ret2
        exact ⟨rfl, rfl⟩
      · have hu : U i = false := by simpa using hu
        rw [hu] at dU
        go_wp2_with fail
        refine C.out.mono ?_
        rintro _ w2 ⟨rfl, rfl⟩
        go_wp2
        go_step3
        go_wp2
        simp only [Exit.jump]
        go_ret2
        exact ⟨rfl, rfl⟩
  · rintro a' w' ⟨rfl, f, i, n, u8, u9, u10, u11, u12, u13, u14, u15, u16, u17, u18, u19, u20, u21, u22, u23, u24, u25, u26, u27, u28, u29, u30, u31, u32, u33, u34, u35, u36, u37, u38, u39, u40, u41, u42, u43, u44, u45, u46, rfl, hfn, hi, hlg⟩
    obtain ⟨f, rfl⟩ : ∃ f', f = f' + 1 := by
      cases f with
      | zero => simp [lgo] at hlg
      | succ f => exact ⟨f, rfl⟩
    obtain ⟨dU, dK⟩ := hS.out i hi
    have hb := hbit.out i hi
    have hi' : (i : Int) ≤ 4611686018427387903 := by omega
    have hn' : (n : Int) ≤ 4611686018427387904 := by omega
    have hz : decide (i < sl) = true := decide_eq_true hi
    have hsl : (sl : Int) ≤ 4611686018427387904 := by omega
    rw [lgo] at hlg
    by_cases hp : (U i && K i != key) = true
    · rw [if_pos hp] at hlg
      simp only [Bool.and_eq_true] at hp
      obtain ⟨hu, hk⟩ := hp
      rw [hu] at dU
      have hlg := Lib.hid hlg
      go_wp2
      go_step3
      rw [show ((i : Int) + 1) % (sl : Int) = (((i + 1) % sl : Nat) : Int) by simp, show (n : Int) + 1 = ((n + 1 : Nat) : Int) by simp]
      refine ⟨rfl, ⟨rfl, f, (i + 1) % sl, n + 1, _, _, _, _, _, _, _, _, _, _, _, _, _, _, _, _, _, _, _, _, _, _, _, _, _, _, _, _, _, _, _, _, _, _, _, _, _, _, _, rfl, by omega, Nat.mod_lt _ hq0, hlg.out⟩, ?_⟩
      simp [intOf]
      omega
    · rw [if_neg hp] at hlg
      simp only [Option.some.injEq, Prod.mk.injEq] at hlg
      obtain ⟨rfl, rfl⟩ := hlg
      by_cases hu : U i = true
      · rw [hu] at dU
        have hk : (K i != key) = false := by rw [hu] at hp; simpa using hp
        go_wp2
        simp only [Exit.jump]
        go_ret2
        exact ⟨rfl, rfl⟩
      · have hu : U i = false := by simpa using hu
        rw [hu] at dU
        go_wp2
        simp only [Exit.jump]
        go_ret2
        exact ⟨rfl, rfl⟩
end Go.Proofs.YtkjeobcfaolcaaaDoor
/- made, Slots, Asked, by contract (a table of uint64). -/
namespace Go.Proofs.YtkjeobcfaolcaaaDoor
open Go.RowKit
set_option maxHeartbeats 4000000
set_option linter.unusedVariables false
set_option linter.unusedSimpArgs false

theorem madeW_b {t g sl cz : Nat} {c1 : Value} {w : World} (d0 : w.cell? ⟨t, 0, none⟩ = some (.slice (some ⟨g, 0, none⟩) sl cz)) :
    Calls Tryd.prog 55 #[.pointer (some ⟨t, 0, none⟩)] w fun e w' => e = .returned (.bool true) ∧ w = w' := by
  go_enter Tryd.func55, Tryd.ntmps55
  go_wp2
  go_ret
  exact ⟨rfl, rfl⟩
theorem slotsW_b {t g sl cz : Nat} {c1 : Value} {w : World} (d0 : w.cell? ⟨t, 0, none⟩ = some (.slice (some ⟨g, 0, none⟩) sl cz)) :
    Calls Tryd.prog 59 #[.pointer (some ⟨t, 0, none⟩)] w fun e w' => e = .returned (.int .i64 (sl : Int)) ∧ w = w' := by
  have M := Lib.hid (madeW_b (c1 := c1) d0)
  go_enter Tryd.func59, Tryd.ntmps59
  go_wp2_with fail
  refine M.out.mono ?_
  rintro _ w2 ⟨rfl, rfl⟩
  go_wp2
  go_ret
  exact ⟨rfl, rfl⟩
theorem askedW_b {t g k fuel j m cz : Nat} {key : Int} {U : Nat → Bool} {K : Nat → Int} {c1 : Value} {w : World} (hT : Tab w) (ht : Blk w t 96 #[.slice (some ⟨g, 0, none⟩) (2 ^ k : Nat) cz, c1])
    (hS : SlotsAt w g (2 ^ k) U K) (h1 : 1 ≤ k) (h2 : k ≤ 62) (hf : fuel ≤ 4611686018427387904) (hl : lgo U K key (2 ^ k) fuel (homeOf key k).toNat 1 = some (j, m)) :
    Calls Tryd.prog 36 #[.pointer (some ⟨t, 0, none⟩), .int .u64 key] w fun e w' => e = .returned (.int .i64 (m : Int)) ∧ w = w' := by
  have C := Lib.hid (lookW_b hT ht hS h1 h2 hf hl)
  have d0 : w.cell? ⟨t, 0, none⟩ = some (.slice (some ⟨g, 0, none⟩) (2 ^ k : Nat) cz) := by rw [Blk.cell ht]; rfl
  have M := Lib.hid (madeW_b (c1 := c1) d0)
  clear hT ht hS hf hl d0
  go_enter Tryd.func36, Tryd.ntmps36
  go_wp2_with fail
  refine M.out.mono ?_
  rintro _ w2 ⟨rfl, rfl⟩
  go_wp2_with fail
  refine C.out.mono ?_
  rintro _ w2 ⟨rfl, rfl⟩
  go_wp2
  go_ret
  exact ⟨rfl, rfl⟩
end Go.Proofs.YtkjeobcfaolcaaaDoor
/- Put, by contract (a table of uint64). -/
namespace Go.Proofs.YtkjeobcfaolcaaaDoor
open Go.RowKit
set_option maxHeartbeats 4000000
set_option linter.unusedVariables false
set_option linter.unusedSimpArgs false

/-- sl slots: used, key, value -/
def SltW (w : World) (g sl : Nat) (U : Nat → Bool) (K : Nat → Int) (X : Nat → Value) : Prop :=
  ∃ cs, Blk w g 99 cs ∧ ∀ i, i < sl → cs[i * 3]? = some (.bool (U i)) ∧ cs[i * 3 + 1]? = some (.int .u64 (K i)) ∧ cs[i * 3 + 2]? = some (X i)
theorem SltW.at_ {w : World} {g sl : Nat} {U : Nat → Bool} {K : Nat → Int} {X : Nat → Value} (h : SltW w g sl U K X) : SlotsAt w g sl U K := by
  obtain ⟨cs, hb, hc⟩ := h
  intro i hi
  obtain ⟨h1, h2, _⟩ := hc i hi
  exact ⟨(Blk.cell hb _).trans h1, (Blk.cell hb _).trans h2⟩
theorem SltW.val {w : World} {g sl : Nat} {U : Nat → Bool} {K : Nat → Int} {X : Nat → Value} (h : SltW w g sl U K X) {i : Nat} (hi : i < sl) : w.cell? ⟨g, i * 3 + 2, none⟩ = some (X i) ∧ ∀ n, w.frozen? ⟨g, n, none⟩ = false := by
  obtain ⟨cs, hb, hc⟩ := h
  exact ⟨(Blk.cell hb _).trans (hc i hi).2.2, fun n => Blk.frozen hb n⟩
set_option maxRecDepth 100000 in
theorem putW_had {t g k fuel j m cz : Nat} {key : Int} {U : Nat → Bool} {K : Nat → Int} {X : Nat → Value} {c1 : Value} {w : World} {x y : Int} (hT : Tab w) (ht : Blk w t 96 #[.slice (some ⟨g, 0, none⟩) (2 ^ k : Nat) cz, c1])
    (hS : SltW w g (2 ^ k) U K X) (h1 : 1 ≤ k) (h2 : k ≤ 62) (hf : fuel ≤ 4611686018427387904) (hl : lgo U K key (2 ^ k) fuel (homeOf key k).toNat 1 = some (j, m)) (hj : j < 2 ^ k) (hu : U j = true) (hx : X j = .int .u64 x) :
    Calls Tryd.prog 57 #[.pointer (some ⟨t, 0, none⟩), .int .u64 key, .int .u64 y] w fun e w' => e = .returned (.tuple #[.int .u64 x, .bool true, .int .i64 0]) ∧ w' = (w.alloc (.cells #[.pointer (some ⟨t, 0, none⟩)] 49)).setCell ⟨g, j * 3 + 2, none⟩ (.int .u64 y) := by
  have S1 : SltW (w.alloc (.cells #[.pointer (some ⟨t, 0, none⟩)] 49)) g (2 ^ k) U K X := by obtain ⟨cs, hb, hc⟩ := hS; exact ⟨cs, hb.alloc _, hc⟩
  have B1 := Blk.alloc ht (.cells #[.pointer (some ⟨t, 0, none⟩)] 49)
  have C := Lib.hid (lookW_b (hT.alloc _) B1 S1.at_ h1 h2 hf hl)
  have d0 := B1.cell 0
  have hjl : decide (j < 2 ^ k) = true := decide_eq_true hj
  have d0 : (w.alloc (.cells #[.pointer (some ⟨t, 0, none⟩)] 49)).cell? ⟨t, 0, none⟩ = some (.slice (some ⟨g, 0, none⟩) (2 ^ k : Nat) cz) := d0
  have M := Lib.hid (madeW_b (c1 := c1) d0)
  have dU := (S1.at_ j hj).1
  obtain ⟨dX, dz⟩ := S1.val hj
  rw [hu] at dU
  rw [hx] at dX
  have dz := dz (j * 3 + 2)
  clear hT ht hS hf hl B1 S1 hu hx
  generalize 2 ^ k = sl at *
  go_enter Tryd.func57, Tryd.ntmps57
  go_wp2_with fail
  refine M.out.mono ?_
  rintro _ w2 ⟨rfl, rfl⟩
  go_wp2_with fail
  refine C.out.mono ?_
  rintro _ w2 ⟨rfl, rfl⟩
  go_wp2
  go_ret3
  exact ⟨rfl, rfl⟩
end Go.Proofs.YtkjeobcfaolcaaaDoor
/- Put of a new key, without a growing, by contract (a table of uint64). -/
namespace Go.Proofs.YtkjeobcfaolcaaaDoor
open Go.RowKit
set_option maxHeartbeats 4000000
set_option linter.unusedVariables false
set_option linter.unusedSimpArgs false

theorem SltW.put {w : World} {g sl : Nat} {U : Nat → Bool} {K : Nat → Int} {X : Nat → Value} (h : SltW w g sl U K X) {j : Nat} (hj : j < sl) (key : Int) (x : Value) {n : Nat} :
    SltW ((((w.drewN n).setCell ⟨g, j * 3, none⟩ (.bool true)).setCell ⟨g, j * 3 + 1, none⟩ (.int .u64 key)).setCell ⟨g, j * 3 + 2, none⟩ x) g sl (fun i => if i = j then true else U i) (fun i => if i = j then key else K i) (fun i => if i = j then x else X i) := by
  obtain ⟨cs, hb, hc⟩ := h
  refine ⟨_, (((hb.drewN n).set_ (j * 3) (.bool true)).set_ (j * 3 + 1) (.int .u64 key)).set_ (j * 3 + 2) x, fun i hi => ?_⟩
  obtain ⟨c0, c1, c2⟩ := hc i hi
  obtain ⟨j0, j1, j2⟩ := hc j hj
  have s0 := (Array.getElem?_eq_some_iff.1 j0).1
  have s1 := (Array.getElem?_eq_some_iff.1 j1).1
  have s2 := (Array.getElem?_eq_some_iff.1 j2).1
  by_cases e : i = j
  · subst e
    simp [Array.getElem?_setIfInBounds, s0, s1, s2]
  · have a0 : j * 3 ≠ i * 3 := by omega
    have a1 : j * 3 + 1 ≠ i * 3 := by omega
    have a2 : j * 3 + 2 ≠ i * 3 := by omega
    have b0 : j * 3 ≠ i * 3 + 1 := by omega
    have b1 : j * 3 + 1 ≠ i * 3 + 1 := by omega
    have b2 : j * 3 + 2 ≠ i * 3 + 1 := by omega
    have d0 : j * 3 ≠ i * 3 + 2 := by omega
    have d1 : j * 3 + 1 ≠ i * 3 + 2 := by omega
    have d2 : j * 3 + 2 ≠ i * 3 + 2 := by omega
    simp only [Array.getElem?_setIfInBounds, a0, a1, a2, b0, b1, b2, d0, d1, d2, if_false, if_neg e]
    exact ⟨c0, c1, c2⟩
set_option maxRecDepth 100000 in
theorem putW_new {t g k fuel j m cz : Nat} {key : Int} {U : Nat → Bool} {Ky : Nat → Int} {X : Nat → Value} {A : Option Addr} {cp : Nat} {l : List Int} {w : World} {y : Int} (hT : Tab w) (ht : Blk w t 96 #[.slice (some ⟨g, 0, none⟩) (2 ^ k : Nat) cz, .slice A l.length cp])
    (hS : SltW w g (2 ^ k) U Ky X) (hv : Wl w (.slice A l.length cp) l) (h1 : 1 ≤ k) (h2 : k ≤ 62) (hf : fuel ≤ 4611686018427387904) (hl : lgo U Ky key (2 ^ k) fuel (homeOf key k).toNat 1 = some (j, m)) (hj : j < 2 ^ k) (hu : U j = false)
    (hroom : 4 * (l.length + 1) ≤ 3 * 2 ^ k) (hlen : (l.length + 1) * 8 ≤ 140737488355328) (hsl : 2 ^ k ≤ 8796093022208) :
    Calls Tryd.prog 57 #[.pointer (some ⟨t, 0, none⟩), .int .u64 key, .int .u64 y] w fun e w' => e = .returned (.tuple #[.int .u64 0, .bool false, .int .i64 0]) ∧
      ∃ A' cp', Blk w' t 96 #[.slice (some ⟨g, 0, none⟩) (2 ^ k : Nat) cz, .slice A' (l.length + 1) cp'] ∧ SltW w' g (2 ^ k) (fun i => if i = j then true else U i) (fun i => if i = j then key else Ky i) (fun i => if i = j then .int .u64 y else X i) ∧
        Wl w' (.slice A' (l.length + 1) cp') (l ++ [key]) ∧ Fr (fun b => b = t ∨ b = g ∨ own (.slice A l.length cp) b) w (fun b => b = t ∨ b = g ∨ own (.slice A' (l.length + 1) cp') b) w' := by
  have S1 : SltW (w.alloc (.cells #[.pointer (some ⟨t, 0, none⟩)] 49)) g (2 ^ k) U Ky X := by obtain ⟨cs, hb, hc⟩ := hS; exact ⟨cs, hb.alloc _, hc⟩
  have B1 := Blk.alloc ht (.cells #[.pointer (some ⟨t, 0, none⟩)] 49)
  have V1 := hv.alloc (.cells #[.pointer (some ⟨t, 0, none⟩)] 49)
  have P1 := Blk.new w 49 #[.pointer (some ⟨t, 0, none⟩)]
  have M1 : Fr (fun b => b = t ∨ b = g ∨ own (.slice A l.length cp) b) w (fun b => b = t ∨ b = g ∨ own (.slice A l.length cp) b) (w.alloc (.cells #[.pointer (some ⟨t, 0, none⟩)] 49)) := (Fr.refl _ w).alloc _
  have hpt : w.heap.size ≠ t := by have := Blk.lt ht; omega
  have hpg : w.heap.size ≠ g := by obtain ⟨cs, hb, _⟩ := hS; have := Blk.lt hb; omega
  have hpv : ¬ own (.slice A l.length cp) w.heap.size := fun e => by have := hv.lt _ e; omega
  have C := Lib.hid (lookW_b (hT.alloc _) B1 S1.at_ h1 h2 hf hl)
  have d0 : (w.alloc (.cells #[.pointer (some ⟨t, 0, none⟩)] 49)).cell? ⟨t, 0, none⟩ = some (.slice (some ⟨g, 0, none⟩) (2 ^ k : Nat) cz) := B1.cell 0
  have d1 : (w.alloc (.cells #[.pointer (some ⟨t, 0, none⟩)] 49)).cell? ⟨t, 1, none⟩ = some (.slice A l.length cp) := B1.cell 1
  have p0 : (w.alloc (.cells #[.pointer (some ⟨t, 0, none⟩)] 49)).cell? ⟨w.heap.size, 0, none⟩ = some (.pointer (some ⟨t, 0, none⟩)) := P1.cell 0
  have hjl : decide (j < 2 ^ k) = true := decide_eq_true hj
  have M := Lib.hid (madeW_b (c1 := .slice A l.length cp) d0)
  have dU := (S1.at_ j hj).1
  have dK := (S1.at_ j hj).2
  have dX := (S1.val hj).1
  rw [hu] at dU
  have dz := (S1.val hj).2
  have z0 := dz (j * 3)
  have z1 := dz (j * 3 + 1)
  have z2 := dz (j * 3 + 2)
  clear hT ht hS hv hf hl hu dz
  generalize 2 ^ k = sl at *
  have hgr : decide (4 * ((l.length : Int) + 1) > 3 * (sl : Int)) = false := decide_eq_false (by omega)
  have hl1 : (l.length : Int) ≤ 17592186044416 := by omega
  have hl2 : (sl : Int) ≤ 8796093022208 := by omega
  have B1 := Lib.hid B1
  have S1 := Lib.hid S1
  have V1 := Lib.hid V1
  have P1 := Lib.hid P1
  have M1 := Lib.hid M1
  obtain ⟨w1, hw1⟩ : ∃ u, Hid (u = w.alloc (.cells #[.pointer (some ⟨t, 0, none⟩)] 49)) := ⟨_, Lib.hid rfl⟩
  rw [← hw1.out] at B1 S1 V1 P1 M1 C M d0 d1 p0 dU dK dX z0 z1 z2
  go_enter Tryd.func57, Tryd.ntmps57
  go_wp2_with fail
  rw [← hw1.out]
  refine M.out.mono ?_
  rintro _ w2 ⟨rfl, rfl⟩
  go_wp2_with fail
  refine C.out.mono ?_
  rintro _ w2 ⟨rfl, rfl⟩
  go_wp2
  have q1 : IntKind.i64.wrap ((l.length : Int) + 1) = (l.length : Int) + 1 := IntWalk.i64_in _ (by omega)
  have q2 : IntKind.i64.wrap (4 * ((l.length : Int) + 1)) = 4 * ((l.length : Int) + 1) := IntWalk.i64_in _ (by omega)
  have q3 : IntKind.i64.wrap (3 * (sl : Int)) = 3 * (sl : Int) := IntWalk.i64_in _ (by omega)
  refine wp_region_mix (fun _ => True) [1, 3, 3, 1, 3, 3, 3, 1, 3, 3, 1, 3, 3, 3] (List.range 14) (by kernel_rfl) (by kernel_rfl) (fun _ _ h => h) trivial ?_
  repeat ((first | refine wpMix_pure rfl rfl (fun K hK => ?_) | refine wpMix_loc rfl rfl (fun K hK => ?_) | refine wpMix_any rfl rfl (fun K hK => ?_)); go_simp; refine hK _ _ ?_; clear hK K)
  refine wpMix_nil (fun n1 => ?_)
  go_wp2
  clear d0 d1 p0 dU dK dX z0 z1 z2 M C
  have hgt : t ≠ g := by obtain ⟨cs, hb, _⟩ := S1.out; exact Blk.ne_ B1.out hb (by decide)
  have hvg : ¬ own (.slice A l.length cp) g := by obtain ⟨cs, hb, _⟩ := S1.out; exact Rowv.ne_ V1.out hb (by decide)
  have hvt : ¬ own (.slice A l.length cp) t := Rowv.ne_ V1.out B1.out (by decide)
  obtain ⟨w2, hw2⟩ : ∃ u, u = ((((w1.drewN (1 + n1)).setCell ⟨g, j * 3, none⟩ (.bool true)).setCell ⟨g, j * 3 + 1, none⟩ (.int .u64 key)).setCell ⟨g, j * 3 + 2, none⟩ (.int .u64 y)) := ⟨_, rfl⟩
  have B2 : Hid (Blk w2 t 96 #[.slice (some ⟨g, 0, none⟩) sl cz, .slice A l.length cp]) := Lib.hid (by rw [hw2]; exact (((B1.out.drewN _).far hgt _).far hgt _).far hgt _)
  have P2 : Hid (Blk w2 w.heap.size 49 #[.pointer (some ⟨t, 0, none⟩)]) := Lib.hid (by rw [hw2]; exact (((P1.out.drewN _).far hpg _).far hpg _).far hpg _)
  have V2 : Hid (Wl w2 (.slice A l.length cp) l) := Lib.hid (by rw [hw2]; exact (((V1.out.drewN _).set (p := ⟨g, _, none⟩) hvg _).set (p := ⟨g, _, none⟩) hvg _).set (p := ⟨g, _, none⟩) hvg _)
  have S2 : Hid (SltW w2 g sl (fun i => if i = j then true else U i) (fun i => if i = j then key else Ky i) (fun i => if i = j then .int .u64 y else X i)) := Lib.hid (by rw [hw2]; exact S1.out.put hj key (.int .u64 y))
  have M2 : Hid (Fr (fun b => b = t ∨ b = g ∨ own (.slice A l.length cp) b) w (fun b => b = t ∨ b = g ∨ own (.slice A l.length cp) b) w2) := Lib.hid (by rw [hw2]; exact ((((M1.out.drewN _).set (p := ⟨g, _, none⟩) (.inl (.inr (.inl rfl))) _).set (p := ⟨g, _, none⟩) (.inl (.inr (.inl rfl))) _).set (p := ⟨g, _, none⟩) (.inl (.inr (.inl rfl))) _))
  rw [← hw2]
  clear hw2 B1 P1 V1 S1 M1 hw1
  have p2 : w2.cell? ⟨w.heap.size, 0, none⟩ = some (.pointer (some ⟨t, 0, none⟩)) := P2.out.cell 0
  have d2 : w2.cell? ⟨t, 1, none⟩ = some (.slice A l.length cp) := B2.out.cell 1
  generalize w.heap.size = pb at *
  refine wp_region_mix (fun W' => W'.cell? ⟨pb, 0, none⟩ = some (.pointer (some ⟨t, 0, none⟩)) ∧ W'.cell? ⟨t, 1, none⟩ = some (.slice A l.length cp)) [0, 0, 3, 3, 0, 3, 2, 2, 3, 3, 2] (List.range 11) (by kernel_rfl) (by kernel_rfl) (fun _ _ h => h) ⟨p2, d2⟩ ?_
  repeat (first | ((first | refine wpMix_pure rfl rfl (fun K hK => ?_) | refine wpMix_loc rfl rfl (fun K hK => ?_) | refine wpMix_any rfl rfl (fun K hK => ?_)); go_simp; refine hK _ _ ?_; clear hK K) | (refine wpMix_any rfl rfl (fun K hK => ?_); rw [if_pos (by go_simp)]; apply Exists.intro; refine And.intro (fun w2 hS2 => ?_) (hK _ _ ?_); (focus (obtain ⟨hs1, hs2⟩ := hS2; go_simp; rfl)); clear hK K))
  refine wpMix_loud rfl rfl (fun n2 K hK => ?_)
  go_wp2
  refine hK _ _ (fun _ => ⟨cell_alloc_ p2, cell_alloc_ d2⟩) ?_; clear hK K
  repeat (first | ((first | refine wpMix_pure rfl rfl (fun K hK => ?_) | refine wpMix_loc rfl rfl (fun K hK => ?_) | refine wpMix_any rfl rfl (fun K hK => ?_)); go_simp; refine hK _ _ ?_; clear hK K) | (refine wpMix_any rfl rfl (fun K hK => ?_); rw [if_pos (by go_simp)]; apply Exists.intro; refine And.intro (fun w2 hS2 => ?_) (hK _ _ ?_); (focus (obtain ⟨hs1, hs2⟩ := hS2; go_simp; rfl)); clear hK K))
  refine wpMix_loud rfl rfl (fun n3 K hK => ?_)
  refine wpList_word ((w2.drewN (1 + n2)).drewN n3) rfl (.tmp 112) (.tmp 114) rfl (.slice A l.length cp) l key rfl ((V2.out.drewN _).drewN _) rfl hlen ?_
  intro A3 c3 w3 hc3 hv3 hm3
  have hgv3 : Hid (∀ cs, Blk w2 g 99 cs → Blk w3 g 99 cs) := Lib.hid fun cs hb => hm3.blk ((hb.drewN _).drewN _) hvg
  have B3 : Hid (Blk w3 t 96 #[.slice (some ⟨g, 0, none⟩) sl cz, .slice A l.length cp]) := Lib.hid (hm3.blk ((B2.out.drewN _).drewN _) hvt)
  have P3 : Hid (Blk w3 pb 49 #[.pointer (some ⟨t, 0, none⟩)]) := Lib.hid (hm3.blk ((P2.out.drewN _).drewN _) hpv)
  have S3 : Hid (SltW w3 g sl (fun i => if i = j then true else U i) (fun i => if i = j then key else Ky i) (fun i => if i = j then .int .u64 y else X i)) := Lib.hid (by obtain ⟨cs, hb, hc⟩ := S2.out; exact ⟨cs, hgv3.out cs hb, hc⟩)
  have V3 := Lib.hid hv3
  have M3 : Hid (Fr (fun b => b = t ∨ b = g ∨ own (.slice A l.length cp) b) w (fun b => b = t ∨ b = g ∨ own (.slice A3 (l.length + 1) c3) b) w3) := Lib.hid (by
    have e1 := (((M2.out.drewN (1 + n2)).drewN n3).trans (hm3.wide fun k hk => .inr (.inr hk)))
    exact e1.into fun k hk => hk.elim (fun h => .inr (.inl (.inl h))) fun hk => hk.elim (fun h => .inr (.inl (.inr (.inl h)))) .inl)
  have p3 : w3.cell? ⟨pb, 0, none⟩ = some (.pointer (some ⟨t, 0, none⟩)) := P3.out.cell 0
  have d3 : w3.cell? ⟨t, 1, none⟩ = some (.slice A l.length cp) := B3.out.cell 1
  have z3 := B3.out.frozen 1
  clear hv3 hm3 V2 B2 P2 S2 M2 hgv3 p2 d2
  refine hK _ _ (fun _ => ⟨p3, d3⟩) ?_; clear hK K
  repeat (first | ((first | refine wpMix_pure rfl rfl (fun K hK => ?_) | refine wpMix_loc rfl rfl (fun K hK => ?_) | refine wpMix_any rfl rfl (fun K hK => ?_)); go_simp; refine hK _ _ ?_; clear hK K) | (refine wpMix_any rfl rfl (fun K hK => ?_); rw [if_pos (by go_simp)]; apply Exists.intro; refine And.intro (fun w2 hS2 => ?_) (hK _ _ ?_); (focus (obtain ⟨hs1, hs2⟩ := hS2; go_simp; rfl)); clear hK K))
  refine wpMix_loud rfl rfl (fun n4 K hK => ?_)
  go_wp2
  refine hK _ _ (fun h => (Bool.false_ne_true ((Eq.symm (by kernel_rfl)).trans h)).elim) ?_; clear hK K
  refine wpMix_nil (fun n5 => ?_)
  go_wp2
  go_ret3
  have hvt3 : ¬ own (.slice A3 (l.length + 1) c3) t := Rowv.ne_ V3.out B3.out (by decide)
  refine ⟨rfl, A3, c3, ((B3.out.drewN _).set_ 1 _).drewN _, ?_, ((V3.out.drewN _).set (p := ⟨t, _, none⟩) hvt3 _).drewN _, ?_⟩
  · obtain ⟨cs, hb, hc⟩ := S3.out
    exact ⟨cs, ((hb.drewN _).far (p := ⟨t, 1, none⟩) (Ne.symm hgt) _).drewN _, hc⟩
  · exact ((M3.out.drewN _).set (p := ⟨t, 1, none⟩) (.inl (.inl rfl)) _).drewN _
end Go.Proofs.YtkjeobcfaolcaaaDoor
/- Slots cloned; Get, Len, Keys, Copy, by contract (a table of uint64). -/
namespace Go.Proofs.YtkjeobcfaolcaaaDoor
open Go.RowKit
set_option maxHeartbeats 4000000
set_option linter.unusedVariables false
set_option linter.unusedSimpArgs false

theorem SltW.lt {w : World} {g sl : Nat} {U : Nat → Bool} {K : Nat → Int} {X : Nat → Value} (h : SltW w g sl U K X) : g < w.heap.size := by obtain ⟨cs, hb, _⟩ := h; exact hb.lt
theorem SltW.alloc {w : World} {g sl : Nat} {U : Nat → Bool} {K : Nat → Int} {X : Nat → Value} (h : SltW w g sl U K X) (o : Obj) : SltW (w.alloc o) g sl U K X := by obtain ⟨cs, hb, hc⟩ := h; exact ⟨cs, hb.alloc o, hc⟩
theorem SltW.drewN {w : World} {g sl : Nat} {U : Nat → Bool} {K : Nat → Int} {X : Nat → Value} (h : SltW w g sl U K X) (n : Nat) : SltW (w.drewN n) g sl U K X := h
theorem SltW.fr {F F' : Nat → Prop} {w w' : World} {g sl : Nat} {U : Nat → Bool} {K : Nat → Int} {X : Nat → Value} (h : SltW w g sl U K X) (hf : Fr F w F' w') (hF : ¬ F g) : SltW w' g sl U K X := by obtain ⟨cs, hb, hc⟩ := h; exact ⟨cs, hf.blk hb hF, hc⟩
theorem slot_infoW : (Tryd.prog.info? 99).map (fun i => (i.zero, i.size, i.bytes)) = some (some (.agg #[.bool false, .int .u64 0, .int .u64 0]), 3, 24) := by kernel_rfl
theorem eqlW (a : Option Addr) (l c : Nat) (w : World) : (binOp .eql 94 (.slice a l c) (.slice none 0 0)).run Tryd.prog w = .ok (.bool a.isNone) w := run_eql_slice_nil 94 _ a l c w Tryd.underlying94
set_option maxRecDepth 100000 in
theorem cloneW_b {g sl cz : Nat} {U : Nat → Bool} {K : Nat → Int} {X : Nat → Value} {w : World} (h : SltW w g sl U K X) (hX : ∀ i, i < sl → (X i).oneCell' = true) (h0 : 0 < sl) (hlen : sl * 24 ≤ 140737488355328) :
    Calls Tryd.prog 56 #[.slice (some ⟨g, 0, none⟩) sl cz] w fun e w' => ∃ g' cz', e = .returned (.slice (some ⟨g', 0, none⟩) sl cz') ∧ SltW w' g' sl U K X ∧ w.heap.size ≤ g' ∧ Fr (fun _ => False) w (fun k => k = g') w' := by
  obtain ⟨cs, hb, hc⟩ := h
  have hsz : sl * 3 ≤ cs.size := by
    have := (Array.getElem?_eq_some_iff.1 (hc (sl - 1) (by omega)).2.2).1
    omega
  obtain ⟨news, hnews⟩ : ∃ news, Hid (news = cs.toList.take (sl * 3)) := ⟨_, Lib.hid rfl⟩
  have hn : news.length = sl * 3 := by rw [hnews.out, List.length_take]; simp; omega
  have hget : ∀ j, j < sl * 3 → news[j]? = cs[j]? := fun j hj => by rw [hnews.out, List.getElem?_take, if_pos hj, Array.getElem?_toList]
  have h1c : ∀ u ∈ news, u.oneCell' = true := by
    intro u hu
    obtain ⟨j, hj⟩ := List.mem_iff_getElem?.1 hu
    have hjl : j < sl * 3 := by rw [← hn]; exact (List.getElem?_eq_some_iff.1 hj).1
    rw [hget j hjl] at hj
    obtain ⟨a0, a1, a2⟩ := hc (j / 3) (by omega)
    rcases (by omega : j = j / 3 * 3 ∨ j = j / 3 * 3 + 1 ∨ j = j / 3 * 3 + 2) with e | e | e
    · rw [e, a0] at hj; cases hj; rfl
    · rw [e, a1] at hj; cases hj; rfl
    · rw [e, a2] at hj; cases hj; exact hX _ (by omega)
  have hcell : ∀ j u, news[j]? = some u → (w.alloc (.cells #[] 99)).cell? ((⟨g, 0, none⟩ : Addr).add j) = some u := fun j u hj => by
    have hjl : j < sl * 3 := by rw [← hn]; exact (List.getElem?_eq_some_iff.1 hj).1
    rw [Addr.add_lit, Nat.zero_add, Blk.cell (hb.alloc _), ← hget j hjl]
    exact hj
  have hcell := Lib.hid hcell
  have h1c := Lib.hid h1c
  have hget := Lib.hid hget
  have hc := Lib.hid hc
  have hn := Lib.hid hn
  clear hX hb
  have eq1 := eqlW
  obtain ⟨i0, hi, hz0, hz1, hz2⟩ := info_parts slot_infoW
  have hi := Lib.hid hi
  have hz0 := Lib.hid hz0
  have hz1 := Lib.hid hz1
  have hz2 := Lib.hid hz2
  have hb1 : 0 + sl ≤ maxLen := by unfold maxLen; omega
  have hb2 : (0 + sl) * 24 ≤ 140737488355328 := by omega
  go_enter Tryd.func56, Tryd.ntmps56
  go_wp2_with (at_builtin; refine wpList_append_arg _ rfl (.tmp 5) (.tmp 6) 94 rfl 99 i0 _ 3 24 Tryd.underlying94 hi.out hz0.out hz1.out hz2.out rfl (by decide) w.heap.size 0 0 0 [] rfl rfl (fun j u hj => by simp at hj) ⟨g, 0, none⟩ sl cz news rfl hn.out hcell.out h1c.out (fun hr => by omega) hb1 hb2 (fun hr => by omega) ?_; intro hlt v' w' hown hgr; rw [List.nil_append, Nat.zero_add] at hown; obtain ⟨g', cap, cur, rfl, hb', hh, hsz2, htk⟩ := ownsRow_made hown h0; have hgr := Lib.hid hgr; have hh := Lib.hid hh; have htk := Lib.hid htk; clear hown)
  go_ret
  refine ⟨_, _, rfl, ⟨cur, hh.out, fun i hi => ?_⟩, by simp at hb'; omega, ?_⟩
  · have e : ∀ j, j < sl * 3 → cur[j]? = cs[j]? := fun j hj => by
      rw [← hget.out j hj, ← htk.out, List.getElem?_take, if_pos hj, Array.getElem?_toList]
    obtain ⟨a0, a1, a2⟩ := hc.out i hi
    exact ⟨(e _ (by omega)).trans a0, (e _ (by omega)).trans a1, (e _ (by omega)).trans a2⟩
  · have e1 : Fr (fun _ => False) w (fun _ => False) (w.alloc (.cells #[] 99)) := (Fr.refl _ w).alloc _
    refine (e1.grown hgr.out fun k hk => by cases hk).into fun k hk => .inr (.inr ?_)
    rw [hk]
    simp at hb'
    omega
set_option maxRecDepth 100000 in
theorem getW_b {t g k fuel j m cz : Nat} {key : Int} {U : Nat → Bool} {K : Nat → Int} {X : Nat → Value} {c1 : Value} {w : World} (hT : Tab w) (ht : Blk w t 96 #[.slice (some ⟨g, 0, none⟩) (2 ^ k : Nat) cz, c1])
    (hS : SltW w g (2 ^ k) U K X) (h1 : 1 ≤ k) (h2 : k ≤ 62) (hf : fuel ≤ 4611686018427387904) (hl : lgo U K key (2 ^ k) fuel (homeOf key k).toNat 1 = some (j, m)) (hj : j < 2 ^ k) :
    Calls Tryd.prog 61 #[.pointer (some ⟨t, 0, none⟩), .int .u64 key] w fun e w' => e = .returned (.tuple #[X j, .bool (U j)]) ∧ ∃ n, w' = w.drewN n := by
  have C := Lib.hid (lookW_b hT ht hS.at_ h1 h2 hf hl)
  have d0 : w.cell? ⟨t, 0, none⟩ = some (.slice (some ⟨g, 0, none⟩) (2 ^ k : Nat) cz) := ht.cell 0
  have M := Lib.hid (madeW_b (c1 := c1) d0)
  have dU := (hS.at_ j hj).1
  have dX := (hS.val hj).1
  have hjl : decide (j < 2 ^ k) = true := decide_eq_true hj
  clear hT ht hS hf hl h1 h2
  generalize 2 ^ k = sl at *
  generalize X j = x at *
  generalize U j = u at *
  go_enter Tryd.func61, Tryd.ntmps61
  go_wp2_with fail
  refine M.out.mono ?_
  rintro _ w2 ⟨rfl, rfl⟩
  go_wp2_with fail
  refine C.out.mono ?_
  rintro _ w2 ⟨rfl, rfl⟩
  go_wp2
  refine wp_region_mix (fun _ => True) [3, 3, 3, 1, 3, 3, 3, 1, 3, 3, 3, 1, 3, 3, 3, 1, 3, 3] (List.range 18) (by kernel_rfl) (by kernel_rfl) (fun _ _ h => h) trivial ?_
  repeat ((first | refine wpMix_pure rfl rfl (fun K hK => ?_) | refine wpMix_loc rfl rfl (fun K hK => ?_) | refine wpMix_any rfl rfl (fun K hK => ?_)); go_simp; refine hK _ _ ?_; clear hK K)
  refine wpMix_nil (fun n1 => ?_)
  go_wp2
  go_ret2
  exact ⟨rfl, 1 + n1, drewN_drewN w 1 n1⟩
theorem lenW_b {t g sl cz : Nat} {A : Option Addr} {n cp : Nat} {w : World} (ht : Blk w t 96 #[.slice (some ⟨g, 0, none⟩) sl cz, .slice A n cp]) :
    Calls Tryd.prog 69 #[.pointer (some ⟨t, 0, none⟩)] w fun e w' => e = .returned (.int .i64 (n : Int)) ∧ w = w' := by
  have d0 : w.cell? ⟨t, 0, none⟩ = some (.slice (some ⟨g, 0, none⟩) sl cz) := ht.cell 0
  have d1 : w.cell? ⟨t, 1, none⟩ = some (.slice A n cp) := ht.cell 1
  have M := Lib.hid (madeW_b (c1 := .slice A n cp) d0)
  clear ht
  go_enter Tryd.func69, Tryd.ntmps69
  go_wp2_with fail
  refine M.out.mono ?_
  rintro _ w2 ⟨rfl, rfl⟩
  go_wp2
  go_ret
  exact ⟨rfl, rfl⟩
theorem keysW_b {t g sl cz : Nat} {A : Option Addr} {cp : Nat} {l : List Int} {w : World} (ht : Blk w t 96 #[.slice (some ⟨g, 0, none⟩) sl cz, .slice A l.length cp]) (hv : Wl w (.slice A l.length cp) l) (hlen : l.length * 8 ≤ 140737488355328) :
    Calls Tryd.prog 67 #[.pointer (some ⟨t, 0, none⟩)] w fun e w' => ∃ A' cp', e = .returned (.slice A' l.length cp') ∧ Wl w' (.slice A' l.length cp') l ∧ Fr (fun _ => False) w (own (.slice A' l.length cp')) w' := by
  have d0 : w.cell? ⟨t, 0, none⟩ = some (.slice (some ⟨g, 0, none⟩) sl cz) := ht.cell 0
  have d1 : w.cell? ⟨t, 1, none⟩ = some (.slice A l.length cp) := ht.cell 1
  have M := Lib.hid (madeW_b (c1 := .slice A l.length cp) d0)
  have C := Lib.hid (clone_b hv.lies hlen)
  clear ht hv
  go_enter Tryd.func67, Tryd.ntmps67
  go_wp2_with fail
  refine M.out.mono ?_
  rintro _ w2 ⟨rfl, rfl⟩
  go_wp2_with fail
  refine C.out.mono ?_
  rintro _ w2 ⟨A', cp', rfl, hv, hm⟩
  have hv := Lib.hid hv
  have hm := Lib.hid hm
  clear C M
  go_wp2
  go_ret
  exact ⟨_, _, rfl, hv.out, hm.out⟩
end Go.Proofs.YtkjeobcfaolcaaaDoor
/- Copy, by contract (a table of uint64). -/
namespace Go.Proofs.YtkjeobcfaolcaaaDoor
open Go.RowKit
set_option maxHeartbeats 4000000
set_option linter.unusedVariables false
set_option linter.unusedSimpArgs false

set_option maxRecDepth 100000 in
theorem copyW_b {t g sl cz : Nat} {U : Nat → Bool} {K : Nat → Int} {X : Nat → Value} {A : Option Addr} {cp : Nat} {l : List Int} {w : World} (ht : Blk w t 96 #[.slice (some ⟨g, 0, none⟩) sl cz, .slice A l.length cp])
    (hS : SltW w g sl U K X) (hv : Wl w (.slice A l.length cp) l) (hX : ∀ i, i < sl → (X i).oneCell' = true) (h0 : 0 < sl) (hlen : sl * 24 ≤ 140737488355328) (hl8 : l.length * 8 ≤ 140737488355328) :
    Calls Tryd.prog 32 #[.pointer (some ⟨t, 0, none⟩)] w fun e w' => ∃ t' g' cz' A' cp', e = .returned (.pointer (some ⟨t', 0, none⟩)) ∧ Blk w' t' 96 #[.slice (some ⟨g', 0, none⟩) sl cz', .slice A' l.length cp'] ∧
      SltW w' g' sl U K X ∧ Wl w' (.slice A' l.length cp') l ∧ Fr (fun _ => False) w (fun b => b = t' ∨ b = g' ∨ own (.slice A' l.length cp') b) w' := by
  have d0 : w.cell? ⟨t, 0, none⟩ = some (.slice (some ⟨g, 0, none⟩) sl cz) := ht.cell 0
  have d1 : w.cell? ⟨t, 1, none⟩ = some (.slice A l.length cp) := ht.cell 1
  have M := Lib.hid (madeW_b (c1 := .slice A l.length cp) d0)
  have B0 := Lib.hid ht
  have S0 := Lib.hid hS
  have V0 := Lib.hid hv
  have hX := Lib.hid hX
  clear ht hS hv
  go_enter Tryd.func32, Tryd.ntmps32
  go_wp2_with fail
  refine M.out.mono ?_
  rintro _ w2 ⟨rfl, rfl⟩
  go_wp2_with fail
  refine wp_region_mix (fun W' => W'.cell? ⟨t, 1, none⟩ = some (.slice A l.length cp)) [3, 3, 3, 1, 2, 3, 3, 3, 0, 2, 2, 2, 3] [0, 1, 2, 3, 5, 6, 7, 8, 4, 9, 10, 11, 12] (by kernel_rfl) (by kernel_rfl) (fun _ _ h => h) d1 ?_
  repeat (first | ((first | refine wpMix_pure rfl rfl (fun K hK => ?_) | refine wpMix_loc rfl rfl (fun K hK => ?_) | refine wpMix_any rfl rfl (fun K hK => ?_)); go_simp; refine hK _ _ ?_; clear hK K) | (refine wpMix_any rfl rfl (fun K hK => ?_); rw [if_pos (by go_simp)]; apply Exists.intro; refine And.intro (fun w2 hS2 => ?_) (hK _ _ ?_); (focus (obtain hs1 := hS2; go_simp; rfl)); clear hK K))
  refine wpMix_loud rfl rfl (fun n1 K hK => ?_)
  go_wp2_with fail
  refine (cloneW_b (S0.out.drewN (1 + n1)) hX.out h0 hlen).mono ?_
  rintro _ w3 ⟨g3, z3, rfl, s3, ge3, m3⟩
  have S3 := Lib.hid s3
  have ge3 := Lib.hid ge3
  have M3 := Lib.hid m3
  have V3 : Hid (Wl w3 (.slice A l.length cp) l) := Lib.hid ((V0.out.drewN (1 + n1)).frs m3 fun k _ h => h)
  have B3 := Lib.hid (m3.blk (B0.out.drewN (1 + n1)) fun h => h)
  have d3 : w3.cell? ⟨t, 1, none⟩ = some (.slice A l.length cp) := B3.out.cell 1
  clear s3 m3 d0
  go_wp2_with fail
  refine hK _ _ (fun _ => d3) ?_; clear hK K
  repeat (first | ((first | refine wpMix_pure rfl rfl (fun K hK => ?_) | refine wpMix_loc rfl rfl (fun K hK => ?_) | refine wpMix_any rfl rfl (fun K hK => ?_)); go_simp; refine hK _ _ ?_; clear hK K) | (refine wpMix_any rfl rfl (fun K hK => ?_); rw [if_pos (by go_simp)]; apply Exists.intro; refine And.intro (fun w2 hS2 => ?_) (hK _ _ ?_); (focus (obtain hs1 := hS2; go_simp; rfl)); clear hK K))
  refine wpMix_loud rfl rfl (fun n2 K hK => ?_)
  go_wp2_with fail
  refine (clone_b (V3.out.lies.drewN n2) hl8).mono ?_
  rintro _ w4 ⟨A4, c4, rfl, v4, m4⟩
  have V4 := Lib.hid v4
  have M4 := Lib.hid m4
  have S4 := Lib.hid (S3.out.drewN n2 |>.fr m4 fun h => h)
  clear v4 m4 d3 d1
  go_wp2_with fail
  refine hK _ _ (fun h => (Bool.false_ne_true ((Eq.symm (by kernel_rfl)).trans h)).elim) ?_; clear hK K
  repeat ((first | refine wpMix_pure rfl rfl (fun K hK => ?_) | refine wpMix_loc rfl rfl (fun K hK => ?_) | refine wpMix_any rfl rfl (fun K hK => ?_)); go_simp; refine hK _ _ ?_; clear hK K)
  refine wpMix_loud rfl rfl (fun n3 K hK => ?_)
  go_wp2_with fail
  refine hK _ _ (fun h => (Bool.false_ne_true ((Eq.symm (by kernel_rfl)).trans h)).elim) ?_; clear hK K
  repeat ((first | refine wpMix_pure rfl rfl (fun K hK => ?_) | refine wpMix_loc rfl rfl (fun K hK => ?_) | refine wpMix_any rfl rfl (fun K hK => ?_)); go_simp; refine hK _ _ ?_; clear hK K)
  refine wpMix_loud rfl rfl (fun n4 K hK => ?_)
  go_wp2_with fail
  refine hK _ _ (fun h => (Bool.false_ne_true ((Eq.symm (by kernel_rfl)).trans h)).elim) ?_; clear hK K
  repeat ((first | refine wpMix_pure rfl rfl (fun K hK => ?_) | refine wpMix_loc rfl rfl (fun K hK => ?_) | refine wpMix_any rfl rfl (fun K hK => ?_)); go_simp; refine hK _ _ ?_; clear hK K)
  refine wpMix_nil (fun n5 => ?_)
  go_wp2
  go_ret
  have e3 : Fr (fun _ => False) w (fun k => k = g3) w3 := ((Fr.refl (fun _ => False) w).drewN (1 + n1)).trans M3.out
  have e4 := (e3.drewN n2).beside M4.out fun k hk => hk.elim
  have e5 := ((e4.drewN (n3 + n4)).alloc (.cells #[.slice (some ⟨g3, 0, none⟩) sl z3, .slice A4 l.length c4] 96)).drewN n5
  refine ⟨_, g3, z3, A4, c4, rfl, (Blk.new (w4.drewN (n3 + n4)) 96 #[.slice (some ⟨g3, 0, none⟩) sl z3, .slice A4 l.length c4]).drewN n5, ((S4.out.drewN (n3 + n4)).alloc _).drewN n5, ((V4.out.drewN (n3 + n4)).alloc _).drewN n5, e5.into fun k hk => ?_⟩
  rcases hk with rfl | rfl | hk
  · exact .inr (.inr e4.size)
  · exact .inl rfl
  · rcases M4.out.new k hk with h | h
    · exact h.elim
    · exact .inr (.inr (Nat.le_trans e3.size h))
end Go.Proofs.YtkjeobcfaolcaaaDoor
