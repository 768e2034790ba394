/- A plain set of words, as the law keeps it: where a word stands, with a word, without one. -/
import Derived.Test.YtgbgodhkehnbdaaSkK
import Derived.Test.YtgbgodhkehnbdaaSkP0
namespace Go.Proofs.Ytgbgodhkehnbdaa
open Go.RowKit
set_option maxHeartbeats 2000000
set_option linter.unusedVariables false
set_option linter.unusedSimpArgs false

theorem place_b {v : Value} {l : List Int} {x : Int} {w : World} (hl : Lies w v l) (hn : (l.length : Int) ≤ 4611686018427387904) :
    Calls Try.prog 30 #[v, .int .u64 x] w fun e w' => e = .returned (.int .i64 (lplace l x : Nat)) ∧ w = w' := by
  obtain ⟨A, cp, rfl, hcp, _, hc⟩ := hl
  go_enter Try.func30, Try.ntmps30
  go_wp2
  go_loopg [5] l.length (fun gk c5 wr => ∃ (j : Nat), gk + j = l.length ∧ c5 = .int .i64 (j : Int) ∧ Hid (lplace l x = j + lplace (l.drop j) x) ∧ w = wr)
  case atStart => exact ⟨0, rfl, rfl, Lib.hid (by simp), rfl⟩
  case round =>
    obtain ⟨j, hj, rfl, hL, rfl⟩ := hrel
    by_cases hlt : j < l.length
    · obtain ⟨g, o, rfl, d⟩ := hc j hlt
      have hs := Lib.hid (lplace_step l j x hlt)
      generalize l.getD j 0 = y at *
      have hji : (j : Int) < l.length := by omega
      have hjc : (l.length : Int) ≤ cp := by omega
      clear hc
      by_cases hy : y < x
      · have hy2 : decide (y < x) = true := by simpa using hy
        have hres : Hid (lplace l x = (j + 1) + lplace (l.drop (j + 1)) x) := Lib.hid (by rw [hL.out, hs.out, if_pos hy]; omega)
        clear hy
        go_wp2
        obtain ⟨k, rfl⟩ : ∃ k, gk = k + 1 := ⟨gk - 1, by omega⟩
        go_roundg k
        case measure => omega
        case rel => exact ⟨j + 1, by omega, by go_num, hres, rfl⟩
      · have hy2 : decide (y < x) = false := by simpa using hy
        have hres : Hid (lplace l x = j) := Lib.hid (by rw [hL.out, hs.out, if_neg hy]; omega)
        clear hy
        go_wp2
        go_ret
        refine ⟨?_, rfl⟩
        rw [hres.out]
        refine ret_int ?_
        omega
    · have hres : Hid (lplace l x = j) := Lib.hid (by rw [hL.out, List.drop_of_length_le (by omega)]; rfl)
      have hji : (l.length : Int) ≤ j := by omega
      go_wp2
      go_ret
      refine ⟨?_, rfl⟩
      rw [hres.out]
      refine ret_int ?_
      omega

theorem looks_b {t : Nat} {F : Nat → Prop} {s : St} {w : World} (hw : Txw w t F s) (hb : Bud s 0) (hl : ∀ p ∈ s.log, p.1 = false) :
    Calls Try.prog 31 #[.pointer (some ⟨t, 0, none⟩)] w fun e w' => e = .returned (.bool true) ∧ ∃ n, w' = w.drewN n := by
  obtain ⟨g, cap, vl, h1, _, h3, h5, h4⟩ := hw
  obtain ⟨A, cp, rfl, hcp, _⟩ := h3.shape
  have hbud : (s.log.length : Int) ≤ 1099511627776 := by unfold Bud at hb; omega
  have d1 : w.cell? ⟨t, 1, none⟩ = some (.slice A s.log.length cp) := by rw [h1.cell]; rfl
  have H3 := Lib.hid h3
  have hcp' : (s.log.length : Int) ≤ cp := by omega
  clear h1 h3 h4 h5
  go_enter Try.func31, Try.ntmps31
  go_wp2
  go_loopg [3] s.log.length (fun gk c3 wr => ∃ (j n : Nat), gk + j = s.log.length ∧ c3 = .int .i64 (j : Int) ∧ wr = w.drewN n)
  case atStart => exact ⟨0, 0, rfl, rfl, rfl⟩
  case round =>
    obtain ⟨j, n, hj, rfl, rfl⟩ := hrel
    by_cases hlt : j < s.log.length
    · obtain ⟨g, off, cap', hv, _, _, _, hcell⟩ := H3.out.at_ (by omega)
      injection hv with hv1 hv2 hv3
      subst hv1
      subst hv3
      obtain ⟨p, hp⟩ : ∃ p, s.log[j]? = some p := ⟨_, List.getElem?_eq_getElem hlt⟩
      have hpf : p.1 = false := hl p (List.mem_of_getElem? hp)
      have d : w.cell? ⟨g, off + j * 3, none⟩ = some (.bool false) := by
        rw [(hcell (j * 3) (by omega)).1, (logCells_get s.log j p hp).1, hpf]
      have hji : (j : Int) < s.log.length := by omega
      clear hcell hp hpf hv2
      go_wp2
      obtain ⟨k, rfl⟩ : ∃ k, gk = k + 1 := ⟨gk - 1, by omega⟩
      go_roundg k
      case measure => omega
      case rel => exact ⟨j + 1, n, by omega, by go_num, rfl⟩
    · have hji : (s.log.length : Int) ≤ j := by omega
      go_wp2
      go_ret
      exact ⟨rfl, n, rfl⟩
end Go.Proofs.Ytgbgodhkehnbdaa
