/- A key's slot, by contract (a table of string). -/
import Derived.Test.YtkjeobcfaolcaaaDoorIxF
import Derived.Test.YtkjeobcfaolcaaaDoorBase
import Derived.ScopeJumps
namespace Go.Proofs.YtkjeobcfaolcaaaDoor
open Go.RowKit
set_option maxHeartbeats 4000000
set_option linter.unusedVariables false
set_option linter.unusedSimpArgs false

set_option maxRecDepth 100000 in
theorem lookS_b {t g k fuel j m cz : Nat} {key : Int} {U : Nat → Bool} {K : Nat → Int} {c1 : Value} {w : World} (hT : Tab w) (ht : Blk w t 77 #[.slice (some ⟨g, 0, none⟩) (2 ^ k : Nat) cz, c1])
    (hS : SlotsAt w g (2 ^ k) U K) (h1 : 1 ≤ k) (h2 : k ≤ 62) (hf : fuel ≤ 4611686018427387904) (hl : lgo U K key (2 ^ k) fuel (homeOf key k).toNat 1 = some (j, m)) :
    Calls Tryd.prog 48 #[.pointer (some ⟨t, 0, none⟩), .int .u64 key] w fun e w' => e = .returned (.tuple #[.int .i64 (j : Int), .int .i64 (m : Int)]) ∧ w = w' := by
  have C := home_b (key := key) h1 h2 hT
  have hbd := homeOf_bd key h1 h2
  obtain ⟨i0, hi0⟩ : ∃ i0 : Nat, homeOf key k = (i0 : Int) := ⟨(homeOf key k).toNat, by omega⟩
  have hlt0 : i0 < 2 ^ k := by
    have : ((2 ^ k : Nat) : Int) = (2 : Int) ^ k := by simp
    omega
  rw [hi0] at C hl
  have hl : lgo U K key (2 ^ k) fuel i0 1 = some (j, m) := hl
  have C := Lib.hid C
  have hbit := fun i => bit_next (k := k) (i := i) h2
  have hq : 2 ^ k ≤ 2 ^ 62 := Nat.pow_le_pow_right (by omega) h2
  have hq0 := Nat.two_pow_pos k
  have d0 : w.cell? ⟨t, 0, none⟩ = some (.slice (some ⟨g, 0, none⟩) (2 ^ k : Nat) cz) := by rw [Blk.cell ht]; rfl
  clear hT ht h1 h2 hbd hi0
  generalize 2 ^ k = sl at *
  have hS := Lib.hid hS
  have hbit := Lib.hid hbit
  go_enter Tryd.func48, Tryd.ntmps48
  go_wp2
  refine wp_scope_jumps 0 (fun a' w' => w' = w ∧ ∃ (f i n : Nat) (u8 u9 u10 u11 u12 u13 u14 u15 u16 u17 u18 u19 u20 u21 u22 u23 u24 u25 u26 u27 u28 u29 u30 u31 u32 u33 u34 u35 u36 u37 u38 u39 u40 u41 u42 u43 u44 u45 u46 : Value), a' = { tmps := #[.pointer (some ⟨t, 0, none⟩), .int .u64 key, undef, undef, .int .i64 0, .int .i64 0, .int .i64 (i : Int), .int .i64 (n : Int), u8, u9, u10, u11, u12, u13, u14, u15, u16, u17, u18, u19, u20, u21, u22, u23, u24, u25, u26, u27, u28, u29, u30, u31, u32, u33, u34, u35, u36, u37, u38, u39, u40, u41, u42, u43, u44, u45, u46], defers := [] } ∧ n + f = fuel + 1 ∧ i < sl ∧ lgo U K key sl f i n = some (j, m)) (fun a' _ => fuel + 1 - (intOf (a'.tmps.getD 7 undef)).toNat) rfl ?_ ?_
  · obtain ⟨i, hi0, hi⟩ : ∃ i, i = i0 ∧ i < sl := ⟨i0, rfl, hlt0⟩
    subst hi0
    obtain ⟨f, hff⟩ : ∃ f, f = fuel := ⟨_, rfl⟩
    obtain ⟨n, hnn⟩ : ∃ n, n = 1 := ⟨_, rfl⟩
    have hfn : n + f = fuel + 1 := by omega
    rw [← hff, ← hnn] at hl
    have hlg := hl
    clear hff hl hlt0
    subst hnn
    obtain ⟨f, rfl⟩ : ∃ f', f = f' + 1 := by
      cases f with
      | zero => simp [lgo] at hlg
      | succ f => exact ⟨f, rfl⟩
    obtain ⟨dU, dK⟩ := hS.out i hi
    have hb := hbit.out i hi
    have hi' : (i : Int) ≤ 4611686018427387903 := by omega
    have hn' : (1 : Int) ≤ 4611686018427387904 := by omega
    have hz : decide (i < sl) = true := decide_eq_true hi
    have hsl : (sl : Int) ≤ 4611686018427387904 := by omega
    rw [lgo] at hlg
    by_cases hp : (U i && K i != key) = true
    · rw [if_pos hp] at hlg
      simp only [Bool.and_eq_true] at hp
      obtain ⟨hu, hk⟩ := hp
      rw [hu] at dU
      have hlg := Lib.hid hlg
      go_wp2_with fail
      refine C.out.mono ?_
      rintro _ w2 ⟨rfl, rfl⟩
      go_wp2
      go_step3
      go_wp2
      go_step3
      rw [show ((i : Int) + 1) % (sl : Int) = (((i + 1) % sl : Nat) : Int) by simp]
      exact ⟨rfl, ⟨rfl, f, (i + 1) % sl, 1 + 1, _, _, _, _, _, _, _, _, _, _, _, _, _, _, _, _, _, _, _, _, _, _, _, _, _, _, _, _, _, _, _, _, _, _, _, _, _, _, _, rfl, by omega, Nat.mod_lt _ hq0, hlg.out⟩⟩
    · rw [if_neg hp] at hlg
      simp only [Option.some.injEq, Prod.mk.injEq] at hlg
      obtain ⟨rfl, rfl⟩ := hlg
      by_cases hu : U i = true
      · rw [hu] at dU
        have hk : (K i != key) = false := by rw [hu] at hp; simpa using hp
        go_wp2_with fail
        refine C.out.mono ?_
        rintro _ w2 ⟨rfl, rfl⟩
        go_wp2
        go_step3
        go_wp2
        simp only [Exit.jump]
        go_ret2
        exact ⟨rfl, rfl⟩
      · have hu : U i = false := by simpa using hu
        rw [hu] at dU
        go_wp2_with fail
        refine C.out.mono ?_
        rintro _ w2 ⟨rfl, rfl⟩
        go_wp2
        go_step3
        go_wp2
        simp only [Exit.jump]
        go_ret2
        exact ⟨rfl, rfl⟩
  · rintro a' w' ⟨rfl, f, i, n, u8, u9, u10, u11, u12, u13, u14, u15, u16, u17, u18, u19, u20, u21, u22, u23, u24, u25, u26, u27, u28, u29, u30, u31, u32, u33, u34, u35, u36, u37, u38, u39, u40, u41, u42, u43, u44, u45, u46, rfl, hfn, hi, hlg⟩
    obtain ⟨f, rfl⟩ : ∃ f', f = f' + 1 := by
      cases f with
      | zero => simp [lgo] at hlg
      | succ f => exact ⟨f, rfl⟩
    obtain ⟨dU, dK⟩ := hS.out i hi
    have hb := hbit.out i hi
    have hi' : (i : Int) ≤ 4611686018427387903 := by omega
    have hn' : (n : Int) ≤ 4611686018427387904 := by omega
    have hz : decide (i < sl) = true := decide_eq_true hi
    have hsl : (sl : Int) ≤ 4611686018427387904 := by omega
    rw [lgo] at hlg
    by_cases hp : (U i && K i != key) = true
    · rw [if_pos hp] at hlg
      simp only [Bool.and_eq_true] at hp
      obtain ⟨hu, hk⟩ := hp
      rw [hu] at dU
      have hlg := Lib.hid hlg
      go_wp2
      go_step3
      rw [show ((i : Int) + 1) % (sl : Int) = (((i + 1) % sl : Nat) : Int) by simp, show (n : Int) + 1 = ((n + 1 : Nat) : Int) by simp]
      refine ⟨rfl, ⟨rfl, f, (i + 1) % sl, n + 1, _, _, _, _, _, _, _, _, _, _, _, _, _, _, _, _, _, _, _, _, _, _, _, _, _, _, _, _, _, _, _, _, _, _, _, _, _, _, _, rfl, by omega, Nat.mod_lt _ hq0, hlg.out⟩, ?_⟩
      simp [intOf]
      omega
    · rw [if_neg hp] at hlg
      simp only [Option.some.injEq, Prod.mk.injEq] at hlg
      obtain ⟨rfl, rfl⟩ := hlg
      by_cases hu : U i = true
      · rw [hu] at dU
        have hk : (K i != key) = false := by rw [hu] at hp; simpa using hp
        go_wp2
        simp only [Exit.jump]
        go_ret2
        exact ⟨rfl, rfl⟩
      · have hu : U i = false := by simpa using hu
        rw [hu] at dU
        go_wp2
        simp only [Exit.jump]
        go_ret2
        exact ⟨rfl, rfl⟩
end Go.Proofs.YtkjeobcfaolcaaaDoor
