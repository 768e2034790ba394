/- SkipLevels: the law's walk. -/
import Derived.Test.YtgbgodhkehnbdaaSkK
import Derived.Test.YtgbgodhkehnbdaaLend
import Derived.Test.YtgbgodhkehnbdaaIn
namespace Go.Proofs.Ytgbgodhkehnbdaa
open Go.RowKit
set_option maxHeartbeats 2000000
set_option linter.unusedVariables false
set_option linter.unusedSimpArgs false

theorem reflevel_b {v : Value} {l : List Int} {w : World} (hl : Lies w v l) (hn : (l.length : Int) ≤ 4611686018427387904) (hbd : ∀ x ∈ l, 0 ≤ x ∧ x ≤ 18446744073709551615) :
    Calls Try.prog 9 #[v] w fun e w' => (∃ n, w' = w.drewN n) ∧ e = .returned (.int .i64 (skLevel l)) := by
  obtain ⟨A, cp, rfl, hcp, _, hc⟩ := hl
  go_enter Try.func9, Try.ntmps9
  go_wp2
  go_loopg [3] l.length (fun gk c3 wr => ∃ (j nd : Nat), gk + j = l.length ∧ c3 = .int .i64 (j : Int) ∧ Hid (skLevelGo l 1 = skLevelGo (l.drop j) (j + 1)) ∧ wr = w.drewN nd)
  case atStart => exact ⟨0, 0, rfl, rfl, Lib.hid (by simp), rfl⟩
  case round =>
    obtain ⟨j, nd, hj, rfl, hL, rfl⟩ := hrel
    by_cases hlt : j < l.length
    · obtain ⟨g, o, rfl, d⟩ := hc j hlt
      have hb := getD_bd hbd j
      have hs := Lib.hid (skLevelGo_step l j (j + 1) hlt)
      generalize l.getD j 0 = y at *
      have hji : (j : Int) < l.length := by omega
      have hjc : (l.length : Int) ≤ cp := by omega
      have hj2 := Lib.hid hj
      clear hc hbd hlt hj
      by_cases hy : y % 2 = 0
      · have hy2 : (y % 2 == 1) = false := by rw [hy]; rfl
        have hres : Hid (skLevelGo l 1 = j + 1) := Lib.hid (by rw [hL.out, hs.out, if_pos hy])
        clear hy
        go_wp2
        all_goals go_ret
        all_goals refine ⟨⟨nd, rfl⟩, ?_⟩
        all_goals unfold skLevel
        all_goals rw [hres.out]
        all_goals refine ret_int ?_
        all_goals omega
      · have hy2 : (y % 2 == 1) = true := by simp; omega
        have hres : Hid (skLevelGo l 1 = skLevelGo (l.drop (j + 1)) (((j + 1 : Nat) : Int) + 1)) := Lib.hid (by rw [hL.out, hs.out, if_neg hy]; rfl)
        clear hy
        go_wp2
        obtain ⟨k, rfl⟩ : ∃ k, gk = k + 1 := ⟨gk - 1, by have := hj2.out; omega⟩
        go_roundg k
        case measure => omega
        case rel => exact ⟨j + 1, nd, by have := hj2.out; omega, by go_num, hres, rfl⟩
    · have hres : Hid (skLevelGo l 1 = j + 1) := Lib.hid (by rw [hL.out, List.drop_of_length_le (by omega)]; rfl)
      have hji : (l.length : Int) ≤ j := by omega
      have hji2 : (j : Int) ≤ 4611686018427387904 := by omega
      clear hc hlt hj
      go_wp2
      all_goals go_ret
      all_goals refine ⟨⟨nd, rfl⟩, ?_⟩
      all_goals unfold skLevel
      all_goals rw [hres.out]
      all_goals refine ret_int ?_
      all_goals omega

theorem skipLevels_walk {W : World} {A : Option Addr} {l : List Int} {c : Nat} (h : WordsIn W A l c) (W0 : World) (e0 : W0 = W := by rfl) :
    Calls Try.prog 3 #[.slice A l.length c] W fun e w' => e = .returned (.bool true) ∧ Below W.heap.size W w' := by
  have hL := Lib.hid h.lies
  have hlen := h.len
  have hbd := Lib.hid h.bd
  clear h
  go_enter Try.func3, Try.ntmps3
  go_wp2_with fail
  refine (lend_b hL.out (by omega)).mono ?_
  rintro e w1 ⟨u, rfl, hu, hb1, _⟩
  have hL1 := Lib.hid (hL.out.below hb1)
  have hu1 := Lib.hid hu
  have hul := Lib.hid hu.wl.lies
  have hb1' := Lib.hid hb1
  clear hu hb1
  go_wp2_with fail
  refine (sklevel_b hul.out (by omega) hbd.out).mono ?_
  rintro e _ ⟨rfl, rfl⟩
  go_wp2_with fail
  refine (reflevel_b hL1.out (by omega) hbd.out).mono ?_
  rintro e _ ⟨⟨n2, rfl⟩, rfl⟩
  have heq : (skLevel l == skLevel l) = true := by simp
  go_wp2_with fail
  refine (kept_b (hu1.out.drewN _) (hL1.out.drewN _) (by omega)).mono ?_
  rintro e _ ⟨⟨n3, rfl⟩, rfl⟩
  go_wp2_with fail
  refine (known_b _).mono ?_
  rintro e w4 ⟨rfl, hb4⟩
  go_wp2
  go_ret
  exact ⟨rfl, (below_drewNs hb1'.out _).trans (hb4.mono (by have := hb1'.out.size; simpa using this))⟩
end Go.Proofs.Ytgbgodhkehnbdaa
