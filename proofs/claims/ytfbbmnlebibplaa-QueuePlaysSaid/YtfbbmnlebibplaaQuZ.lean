/- Queues without a block. -/
import Derived.Test.YtfbbmnlebibplaaQuK
import Derived.Deep.DeepMust
namespace Go.Proofs.Ytfbbmnlebibplaa
open Go.RowKit
set_option maxHeartbeats 4000000
set_option linter.unusedVariables false
set_option linter.unusedSimpArgs false

theorem fitsn_b (z : Int) (w : World) : Calls Try.prog 38 #[.nilIface, .int .u64 z] w fun e w' => e = .returned (.int .i64 1) ∧ w = w' := by
  go_enter Try.func38, Try.ntmps38
  go_wp2
  go_ret
  exact ⟨rfl, rfl⟩
theorem taken_b (a z : Int) (w : World) : Calls Try.prog 34 #[.nilIface, .int .u64 a, .int .u64 z] w fun e w' => e = .returned (.tuple #[.int .u64 0, .int .i64 1]) ∧ w = w' := by
  go_enter Try.func34, Try.ntmps34
  go_wp2_with (go_at_call 38; refine (fitsn_b _ _).mono ?_; rintro _ _ ⟨rfl, rfl⟩)
  go_ret2
  exact ⟨rfl, rfl⟩
theorem qputn_b {bb : Nat} {a x : Int} {w : World} (h : Blk w bb 79 #[.nilIface, .int .i64 1]) : Calls Try.prog 35 #[.pointer (some ⟨bb, 0, none⟩), .int .u64 a, .int .u64 x] w fun e w' => e = .returned (.tuple #[]) ∧ w = w' := by
  have d := h.cell 1
  simp only [List.getElem?_toArray, List.getElem?_cons_zero, List.getElem?_cons_succ] at d
  clear h
  go_enter Try.func35, Try.ntmps35
  go_wp2
  go_end0
  exact ⟨rfl, rfl⟩
theorem qgetn_b {bb : Nat} {a : Int} {w : World} (h : Blk w bb 79 #[.nilIface, .int .i64 1]) : Calls Try.prog 31 #[.pointer (some ⟨bb, 0, none⟩), .int .u64 a] w fun e w' => e = .returned (.int .u64 0) ∧ w = w' := by
  have d := h.cell 1
  simp only [List.getElem?_toArray, List.getElem?_cons_zero, List.getElem?_cons_succ] at d
  clear h
  go_enter Try.func31, Try.ntmps31
  go_wp2
  go_ret
  exact ⟨rfl, rfl⟩
def NilP (B : Nat) (w : World) (v : Value) (e : Ending) (w' : World) : Prop := e = .returned v ∧ Below B w w'
theorem newn_b (a : Int) (w : World) : Calls Try.prog 18 #[.nilIface, .int .u64 a] w (NilP w.heap.size w (.tuple #[.int .u64 0, .int .i64 1])) := by
  have hb := Lib.hid (Blk.new w 79 #[.nilIface, .int .i64 1])
  have hB := Lib.hid ((Below.refl w.heap.size w).alloc (Nat.le_refl _) (.cells #[.nilIface, .int .i64 1] 79))
  have d := hb.out.cell 1
  simp only [List.getElem?_toArray, List.getElem?_cons_zero, List.getElem?_cons_succ] at d
  go_enter Try.func18, Try.ntmps18
  go_wp2_with (go_at_call 34; refine (taken_b _ _ _).mono ?_; rintro _ _ ⟨rfl, rfl⟩)
  go_loopg [20] 3 (fun gk c20 wr => ∃ (k n : Nat), gk + k = 3 ∧ c20 = .int .u64 (k : Int) ∧ wr = (w.alloc (.cells #[.nilIface, .int .i64 1] 79)).drewN n)
  case atStart => exact ⟨0, 0, rfl, rfl, rfl⟩
  case round =>
    obtain ⟨k, n, hk, rfl, rfl⟩ := hrel
    have HK := Lib.hid hk
    have hb' := Lib.hid (hb.out.drewN n)
    clear hk
    by_cases hlt : k < 3
    · obtain ⟨m, rfl⟩ : ∃ m, gk = m + 1 := ⟨gk - 1, by have := HK.out; omega⟩
      have hku : (k : Int) < 3 := by omega
      go_wp2_with (go_at_call 35; refine (qputn_b hb'.out).mono ?_; rintro _ _ ⟨rfl, rfl⟩)
      go_roundg m
      case measure => omega
      case rel => exact ⟨k + 1, n, by have := HK.out; omega, by go_num, rfl⟩
    · obtain rfl : k = 3 := by have := HK.out; omega
      have d' := hb'.out.cell 1
      simp only [List.getElem?_toArray, List.getElem?_cons_zero, List.getElem?_cons_succ] at d'
      clear hlt
      go_wp2
      go_quiet (fail)
      go_wp2
      go_ret2
      exact ⟨rfl, below_drewNs (below_drewNs hB.out n) _⟩
theorem putn_b (a q x : Int) (w : World) : Calls Try.prog 20 #[.nilIface, .int .u64 a, .int .u64 q, .int .u64 x] w (NilP w.heap.size w (.int .i64 1)) := by
  have hb := Lib.hid (Blk.new w 79 #[.nilIface, .int .i64 1])
  have hB := Lib.hid ((Below.refl w.heap.size w).alloc (Nat.le_refl _) (.cells #[.nilIface, .int .i64 1] 79))
  have d := hb.out.cell 1
  simp only [List.getElem?_toArray, List.getElem?_cons_zero, List.getElem?_cons_succ] at d
  go_enter Try.func20, Try.ntmps20
  go_wp2_with (first | (go_at_call 34; refine (taken_b _ _ _).mono ?_; rintro _ _ ⟨rfl, rfl⟩) | (go_at_call 35; refine (qputn_b hb.out).mono ?_; rintro _ _ ⟨rfl, rfl⟩) | (go_at_call 31; refine (qgetn_b hb.out).mono ?_; rintro _ _ ⟨rfl, rfl⟩))
  go_ret
  exact ⟨rfl, hB.out⟩
theorem takenq_b (a q : Int) (w : World) : Calls Try.prog 22 #[.nilIface, .int .u64 a, .int .u64 q] w (NilP w.heap.size w (.tuple #[.int .u64 0, .bool false, .int .i64 1])) := by
  go_enter Try.func22, Try.ntmps22
  go_wp2
  go_ret3
  exact ⟨rfl, Below.refl _ _⟩
theorem firstn_b (q : Int) (w : World) : Calls Try.prog 24 #[.nilIface, .int .u64 q] w (NilP w.heap.size w (.tuple #[.int .u64 0, .bool false, .int .i64 1])) := by
  go_enter Try.func24, Try.ntmps24
  go_wp2
  go_ret3
  exact ⟨rfl, Below.refl _ _⟩
theorem lenn_b (q : Int) (w : World) : Calls Try.prog 25 #[.nilIface, .int .u64 q] w (NilP w.heap.size w (.tuple #[.int .u64 0, .int .i64 1])) := by
  go_enter Try.func25, Try.ntmps25
  go_wp2
  go_ret2
  exact ⟨rfl, Below.refl _ _⟩
theorem nodesn_b (q : Int) (w : World) : Calls Try.prog 30 #[.nilIface, .int .u64 q] w fun e w' => e = .returned (.tuple #[.slice none 0 0, .int .i64 1]) ∧ w = w' := by
  go_enter Try.func30, Try.ntmps30
  go_wp2
  first | (go_ret2; exact ⟨rfl, rfl⟩) | (go_step3; go_wp2; try rw [Exit.noGoto_ret]; go_ret2; exact ⟨rfl, rfl⟩)
theorem wordsn_b (q : Int) (w : World) : Calls Try.prog 13 #[.nilIface, .int .u64 q] w (NilP w.heap.size w (.tuple #[.slice none 0 0, .int .i64 1])) := by
  have hb := Lib.hid (Blk.new w 79 #[.nilIface, .int .i64 1])
  have hB := Lib.hid ((Below.refl w.heap.size w).alloc (Nat.le_refl _) (.cells #[.nilIface, .int .i64 1] 79))
  have d := hb.out.cell 1
  simp only [List.getElem?_toArray, List.getElem?_cons_zero, List.getElem?_cons_succ] at d
  go_enter Try.func13, Try.ntmps13
  go_wp2_with (go_at_call 30; refine (nodesn_b _ _).mono ?_; rintro _ _ ⟨rfl, rfl⟩)
  go_loopg [23] 0 (fun gk c23 wr => c23 = .int .i64 0 ∧ wr = w.alloc (.cells #[.nilIface, .int .i64 1] 79))
  case atStart => exact ⟨rfl, rfl⟩
  case round =>
    obtain ⟨rfl, rfl⟩ := hrel
    go_wp2
    go_quiet (fail)
    go_wp2
    go_ret2
    exact ⟨rfl, below_drewNs hB.out _⟩
theorem dropn_b (a q : Int) (w : World) : Calls Try.prog 15 #[.nilIface, .int .u64 a, .int .u64 q] w (NilP w.heap.size w (.int .i64 1)) := by
  go_enter Try.func15, Try.ntmps15
  go_wp2_with (go_at_call 30; refine (nodesn_b _ _).mono ?_; rintro _ _ ⟨rfl, rfl⟩)
  go_loopg [19, 8] 0 (fun gk c19 c8 wr => c19 = .int .i64 0 ∧ c8 = .int .i64 1 ∧ wr = w)
  case atStart => exact ⟨rfl, rfl, rfl⟩
  case round =>
    obtain ⟨rfl, rfl, rfl⟩ := hrel
    go_wp2
    go_ret
    exact ⟨rfl, Below.refl _ _⟩
theorem nothing_b (w : World) : Calls Try.prog 11 #[] w (TrueP w.heap.size w) := by
  go_enter Try.func11, Try.ntmps11
  go_wp2_with fail
  refine (newn_b _ _).mono ?_
  rintro _ w1 ⟨rfl, hb1⟩
  have B1 := Lib.hid hb1
  clear hb1
  go_wp2_with fail
  refine (takenq_b _ _ _).mono ?_
  rintro _ w2 ⟨rfl, hb2⟩
  have B2 := Lib.hid (B1.out.trans (hb2.mono B1.out.size))
  clear hb2 B1
  go_wp2_with fail
  refine (firstn_b _ _).mono ?_
  rintro _ w3 ⟨rfl, hb3⟩
  have B3 := Lib.hid (B2.out.trans (hb3.mono B2.out.size))
  clear hb3 B2
  go_wp2_with fail
  refine (lenn_b _ _).mono ?_
  rintro _ w4 ⟨rfl, hb4⟩
  have B4 := Lib.hid (B3.out.trans (hb4.mono B3.out.size))
  clear hb4 B3
  go_wp2_with fail
  refine (wordsn_b _ _).mono ?_
  rintro _ w5 ⟨rfl, hb5⟩
  have B5 := Lib.hid (B4.out.trans (hb5.mono B4.out.size))
  clear hb5 B4
  go_wp2_with (go_at_call 14; refine (num_b _ _).mono ?_; rintro e _ ⟨rfl, rfl⟩)
  refine (putn_b _ _ _ _).mono ?_
  rintro _ w6 ⟨rfl, hb6⟩
  have B6 := Lib.hid (B5.out.trans (hb6.mono B5.out.size))
  clear hb6 B5
  go_wp2_with (go_at_call 14; refine (num_b _ _).mono ?_; rintro e _ ⟨rfl, rfl⟩)
  refine (dropn_b _ _ _).mono ?_
  rintro _ w7 ⟨rfl, hb7⟩
  have B7 := Lib.hid (B6.out.trans (hb7.mono B6.out.size))
  clear hb7 B6
  go_wp2_with (go_at_call 14; refine (num_b _ _).mono ?_; rintro e _ ⟨rfl, rfl⟩)
  go_ret
  exact ⟨rfl, B7.out⟩
end Go.Proofs.Ytfbbmnlebibplaa
