/- opaque.view.at by contract. -/
import Derived.Test.YtloiadhdkgkjkaaOpG
namespace Go.Proofs.Ytloiadhdkgkjkaa
open Go.RowKit
set_option maxHeartbeats 4000000
set_option linter.unusedVariables false
set_option linter.unusedSimpArgs false
/-- The place, from i down, of the last entry that stands behind n commits. -/
def dn (l : List (Nat × Int)) (n : Nat) : Nat → Nat
  | 0 => 0
  | i + 1 => if n < (l.getD (i + 1) (0, 0)).1 then dn l n i else i + 1
/-- A cell's word behind n commits. -/
def atW (l : List (Nat × Int)) (n : Nat) : Int := (l.getD (dn l n (l.length - 1)) (0, 0)).2
theorem getD_cell {l : List (Nat × Int)} {k : Nat} (hk : k < l.length) : l[k]'hk = l.getD k (0, 0) := by
  rw [List.getD_eq_getElem?_getD, List.getElem?_eq_getElem hk]
  rfl
section
variable {B : Nat} {w : World} {vb nb mb : Nat} {v : Vw} {size : Nat} {fv cv : Nat → Value} {sv : Value}
set_option maxRecDepth 100000 in
theorem at_b (h : VwW B w vb nb mb v size fv cv sv) {a : Nat} (ha : a < size) {l : List (Nat × Int)} (hl : v.cells a = l) (hne : l ≠ []) (hz : (l.getD 0 (0, 0)).1 = 0) (hlen : l.length ≤ 9223372036854775807) (n : Nat) :
    Calls Try.prog 38 #[.pointer (some ⟨vb, 0, none⟩), .int .u64 a, .int .i64 n] w fun x w' => x = .returned (.int .u64 (atW l n)) ∧ w' = w := by
  obtain ⟨m, hm⟩ : ∃ m, l.length = m + 1 := ⟨l.length - 1, by have := List.length_pos_iff.2 hne; omega⟩
  have hcell := h.cells a ha
  rw [hl] at hcell
  obtain ⟨Ac, capc, hcv, hcapc⟩ := hcell.shape
  rw [hcv] at hcell
  obtain ⟨g, o, hAc, hgc, hcc⟩ := Sl.cell encF_len (by decide) hcell (i := m) (by omega)
  subst hAc
  have hc0 : ∀ k, k ≤ m → w.cell? ⟨g, o + k * 2, none⟩ = some (.int .i64 (l.getD k (0, 0)).1) := fun k hk => (hcc k (by omega) 0 (by decide)).1.trans (by rw [getD_cell]; rfl)
  have hc1 : ∀ k, k ≤ m → w.cell? ⟨g, o + k * 2 + 1, none⟩ = some (.int .u64 (l.getD k (0, 0)).2) := fun k hk => by rw [Nat.add_assoc]; exact (hcc k (by omega) 1 (by decide)).1.trans (by rw [getD_cell]; rfl)
  rw [hm] at hcv hcapc
  have v0 := h.c0
  obtain ⟨n0, hM0⟩ := h.map
  have hlk0 : (Instr.lookup 65 (.map (some mb)) (.int .u64 a) false).run Try.prog w = .ok (.slice (some ⟨g, o, none⟩) (m + 1) capc) w := by
    have := Mp.lookup (P := Try.prog) hM0 (t := 65) Try.underlying65 Try.underlying35 (z := .slice none 0 0) (by kernel_rfl) a false
    rw [this]
    show Result.ok ((cmap size cv a).getD (.slice none 0 0)) _ = _
    unfold cmap
    rw [if_pos ⟨by omega, by omega⟩, Int.toNat_natCast, hcv]
    rfl
  have hml : (m : Int) + 1 ≤ 9223372036854775807 := by omega
  have hmm1 : (m : Int) < (m : Int) + 1 := by omega
  have hat : Hid (atW l n = (l.getD (dn l n m) (0, 0)).2) := Lib.hid (by unfold atW; rw [hm]; rfl)
  replace hc0 := Lib.hid hc0
  replace hc1 := Lib.hid hc1
  replace hz := Lib.hid hz
  clear h hcell hcc hM0 hcv hl hne hlen hgc
  replace hm := Lib.hid hm
  go_enter Try.func38, Try.ntmps38
  go_wp2
  go_loopw [8] (fun i wr => ∃ k : Nat, k ≤ m ∧ i = .int .i64 k ∧ Hid (dn l n k = dn l n m) ∧ wr = w) (fun i _ => (intOf i).toNat)
  case atStart => exact ⟨m, Nat.le_refl _, by go_num, Lib.hid rfl, rfl⟩
  case round =>
    obtain ⟨k, hk, rfl, hd, rfl⟩ := hrel
    have x0 := hc0.out k hk
    have x1 := hc1.out k hk
    have hkm : (k : Int) < (m : Int) + 1 := by omega
    by_cases hgt : n < (l.getD k (0, 0)).1
    · obtain ⟨k', rfl⟩ : ∃ k', k = k' + 1 := by
        cases k with
        | zero => rw [hz.out] at hgt; omega
        | succ k' => exact ⟨k', rfl⟩
      have hgt' : (n : Int) < ((l.getD (k' + 1) (0, 0)).1 : Int) := by omega
      have hd' : Hid (dn l n k' = dn l n m) := Lib.hid (by rw [← hd.out]; unfold dn; rw [if_pos hgt]; cases k' <;> rfl)
      generalize (l.getD (k' + 1) (0, 0)).1 = y0 at *
      generalize (l.getD (k' + 1) (0, 0)).2 = y1 at *
      go_wp2
      go_roundw
      case rel => exact ⟨k', by omega, by go_num, hd', trivial⟩
      case measure => (simp [intOf]; try omega)
    · have hgt' : ¬ (n : Int) < ((l.getD k (0, 0)).1 : Int) := by omega
      have hd' : dn l n k = k := by
        cases k with
        | zero => rfl
        | succ k' => unfold dn; rw [if_neg hgt]
      have hat' : Hid (atW l n = (l.getD k (0, 0)).2) := Lib.hid (by rw [hat.out, ← hd.out, hd'])
      generalize (l.getD k (0, 0)).1 = y0 at *
      generalize (l.getD k (0, 0)).2 = y1 at *
      replace hd' := Lib.hid hd'
      go_wp2
      all_goals go_ret
      all_goals exact ⟨ret_int (by rw [hat'.out]), rfl⟩
end
end Go.Proofs.Ytloiadhdkgkjkaa
