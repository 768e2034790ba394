/- A step's call without a tx. (printed by donil.py) -/
import Derived.Test.YtcohopobjppmaaaLiN
namespace Go.Proofs.Ytcohopobjppmaaa
open Go.RowKit
set_option maxHeartbeats 4000000
set_option linter.unusedVariables false
set_option linter.unusedSimpArgs false

set_option maxRecDepth 100000 in
theorem donil1_b {a l on key : Int} {w : World} : Calls Try.prog 7 #[.nilIface, .int .u64 a, .int .u64 l, .agg #[.int .i64 1, .int .i64 on, .int .u64 key]] w fun en w' => en = .returned (.agg #[.int .u64 0, .bool false, .slice none 0 0, .int .i64 1]) ∧ Below w.heap.size w w' := by
  have hB := Lib.hid ((((Below.refl w.heap.size w).alloc (Nat.le_refl _) (.cells #[.int .i64 1, .int .i64 on, .int .u64 key] 25)).alloc (by simp) (.cells #[.int .u64 0, .bool false, .slice none 0 0, .int .i64 1] 29)).alloc (by simp; omega) (.cells #[.int .u64 0, .bool false, .slice none 0 0, .int .i64 1] 29))
  have hx := (Blk.new (w.alloc (.cells #[.int .i64 1, .int .i64 on, .int .u64 key] 25)) 29 #[.int .u64 0, .bool false, .slice none 0 0, .int .i64 1]).alloc (.cells #[.int .u64 0, .bool false, .slice none 0 0, .int .i64 1] 29)
  rw [show (w.alloc (.cells #[.int .i64 1, .int .i64 on, .int .u64 key] 25)).heap.size = w.heap.size + 1 by simp] at hx
  have x0 := hx.cell 0
  have x1 := hx.cell 1
  have x2 := hx.cell 2
  have x3 := hx.cell 3
  simp only [List.getElem?_toArray, List.getElem?_cons_zero, List.getElem?_cons_succ] at x0 x1 x2 x3
  clear hx
  go_enter Try.func7, Try.ntmps7
  go_wp2_with fail
  refine insert_nil.mono ?_
  rintro _ w2 ⟨rfl, rfl⟩
  go_wp2_with fail
  refine bodyPost_ret (v := .agg #[.int .u64 0, .bool false, .slice none 0 0, .int .i64 1]) (by simp [results, Try.func7, go_sem, x0, x1, x2, x3]) rfl ?_
  exact ⟨rfl, hB.out⟩
set_option maxRecDepth 100000 in
theorem donil2_b {a l on key : Int} {w : World} : Calls Try.prog 7 #[.nilIface, .int .u64 a, .int .u64 l, .agg #[.int .i64 2, .int .i64 on, .int .u64 key]] w fun en w' => en = .returned (.agg #[.int .u64 0, .bool false, .slice none 0 0, .int .i64 1]) ∧ Below w.heap.size w w' := by
  have hB := Lib.hid ((((Below.refl w.heap.size w).alloc (Nat.le_refl _) (.cells #[.int .i64 2, .int .i64 on, .int .u64 key] 25)).alloc (by simp) (.cells #[.int .u64 0, .bool false, .slice none 0 0, .int .i64 1] 29)).alloc (by simp; omega) (.cells #[.int .u64 0, .bool false, .slice none 0 0, .int .i64 1] 29))
  have hx := (Blk.new (w.alloc (.cells #[.int .i64 2, .int .i64 on, .int .u64 key] 25)) 29 #[.int .u64 0, .bool false, .slice none 0 0, .int .i64 1]).alloc (.cells #[.int .u64 0, .bool false, .slice none 0 0, .int .i64 1] 29)
  rw [show (w.alloc (.cells #[.int .i64 2, .int .i64 on, .int .u64 key] 25)).heap.size = w.heap.size + 1 by simp] at hx
  have x0 := hx.cell 0
  have x1 := hx.cell 1
  have x2 := hx.cell 2
  have x3 := hx.cell 3
  simp only [List.getElem?_toArray, List.getElem?_cons_zero, List.getElem?_cons_succ] at x0 x1 x2 x3
  clear hx
  go_enter Try.func7, Try.ntmps7
  go_wp2_with fail
  refine remove_nil.mono ?_
  rintro _ w2 ⟨rfl, rfl⟩
  go_wp2_with fail
  refine bodyPost_ret (v := .agg #[.int .u64 0, .bool false, .slice none 0 0, .int .i64 1]) (by simp [results, Try.func7, go_sem, x0, x1, x2, x3]) rfl ?_
  exact ⟨rfl, hB.out⟩
set_option maxRecDepth 100000 in
theorem donil3_b {a l on key : Int} {w : World} : Calls Try.prog 7 #[.nilIface, .int .u64 a, .int .u64 l, .agg #[.int .i64 3, .int .i64 on, .int .u64 key]] w fun en w' => en = .returned (.agg #[.int .u64 0, .bool false, .slice none 0 0, .int .i64 1]) ∧ Below w.heap.size w w' := by
  have hB := Lib.hid ((((Below.refl w.heap.size w).alloc (Nat.le_refl _) (.cells #[.int .i64 3, .int .i64 on, .int .u64 key] 25)).alloc (by simp) (.cells #[.int .u64 0, .bool false, .slice none 0 0, .int .i64 1] 29)).alloc (by simp; omega) (.cells #[.int .u64 0, .bool false, .slice none 0 0, .int .i64 1] 29))
  have hx := (Blk.new (w.alloc (.cells #[.int .i64 3, .int .i64 on, .int .u64 key] 25)) 29 #[.int .u64 0, .bool false, .slice none 0 0, .int .i64 1]).alloc (.cells #[.int .u64 0, .bool false, .slice none 0 0, .int .i64 1] 29)
  rw [show (w.alloc (.cells #[.int .i64 3, .int .i64 on, .int .u64 key] 25)).heap.size = w.heap.size + 1 by simp] at hx
  have x0 := hx.cell 0
  have x1 := hx.cell 1
  have x2 := hx.cell 2
  have x3 := hx.cell 3
  simp only [List.getElem?_toArray, List.getElem?_cons_zero, List.getElem?_cons_succ] at x0 x1 x2 x3
  clear hx
  go_enter Try.func7, Try.ntmps7
  go_wp2_with fail
  refine (has_nil (a := 0)).mono ?_
  rintro _ w2 ⟨rfl, rfl⟩
  go_wp2_with fail
  refine bodyPost_ret (v := .agg #[.int .u64 0, .bool false, .slice none 0 0, .int .i64 1]) (by simp [results, Try.func7, go_sem, x0, x1, x2, x3]) rfl ?_
  exact ⟨rfl, hB.out⟩
set_option maxRecDepth 100000 in
theorem donil4_b {a l on key : Int} {w : World} : Calls Try.prog 7 #[.nilIface, .int .u64 a, .int .u64 l, .agg #[.int .i64 4, .int .i64 on, .int .u64 key]] w fun en w' => en = .returned (.agg #[.int .u64 0, .bool false, .slice none 0 0, .int .i64 1]) ∧ Below w.heap.size w w' := by
  have hB := Lib.hid ((((Below.refl w.heap.size w).alloc (Nat.le_refl _) (.cells #[.int .i64 4, .int .i64 on, .int .u64 key] 25)).alloc (by simp) (.cells #[.int .u64 0, .bool false, .slice none 0 0, .int .i64 1] 29)).alloc (by simp; omega) (.cells #[.int .u64 0, .bool false, .slice none 0 0, .int .i64 1] 29))
  have hx := (Blk.new (w.alloc (.cells #[.int .i64 4, .int .i64 on, .int .u64 key] 25)) 29 #[.int .u64 0, .bool false, .slice none 0 0, .int .i64 1]).alloc (.cells #[.int .u64 0, .bool false, .slice none 0 0, .int .i64 1] 29)
  rw [show (w.alloc (.cells #[.int .i64 4, .int .i64 on, .int .u64 key] 25)).heap.size = w.heap.size + 1 by simp] at hx
  have x0 := hx.cell 0
  have x1 := hx.cell 1
  have x2 := hx.cell 2
  have x3 := hx.cell 3
  simp only [List.getElem?_toArray, List.getElem?_cons_zero, List.getElem?_cons_succ] at x0 x1 x2 x3
  clear hx
  go_enter Try.func7, Try.ntmps7
  go_wp2_with fail
  refine (len_nil (a := 0) (key := 0)).mono ?_
  rintro _ w2 ⟨rfl, rfl⟩
  go_wp2_with fail
  refine bodyPost_ret (v := .agg #[.int .u64 0, .bool false, .slice none 0 0, .int .i64 1]) (by simp [results, Try.func7, go_sem, x0, x1, x2, x3]) rfl ?_
  exact ⟨rfl, hB.out⟩
set_option maxRecDepth 100000 in
theorem donil5_b {a l on key : Int} {w : World} : Calls Try.prog 7 #[.nilIface, .int .u64 a, .int .u64 l, .agg #[.int .i64 5, .int .i64 on, .int .u64 key]] w fun en w' => en = .returned (.agg #[.int .u64 0, .bool false, .slice none 0 0, .int .i64 1]) ∧ Below w.heap.size w w' := by
  have hB := Lib.hid (((((Below.refl w.heap.size w).alloc (Nat.le_refl _) (.cells #[.int .i64 5, .int .i64 on, .int .u64 key] 25)).alloc (by simp) (.cells #[.int .u64 0, .bool false, .slice none 0 0, .int .i64 1] 29)).alloc (by simp; omega) (.cells #[.int .u64 0, .bool false, .slice none 0 0, .int .i64 1] 29)).alloc (by simp; omega) (.cells #[.int .u64 key] 23))
  have hx := ((Blk.new (w.alloc (.cells #[.int .i64 5, .int .i64 on, .int .u64 key] 25)) 29 #[.int .u64 0, .bool false, .slice none 0 0, .int .i64 1]).alloc (.cells #[.int .u64 0, .bool false, .slice none 0 0, .int .i64 1] 29)).alloc (.cells #[.int .u64 key] 23)
  rw [show (w.alloc (.cells #[.int .i64 5, .int .i64 on, .int .u64 key] 25)).heap.size = w.heap.size + 1 by simp] at hx
  have x0 := hx.cell 0
  have x1 := hx.cell 1
  have x2 := hx.cell 2
  have x3 := hx.cell 3
  simp only [List.getElem?_toArray, List.getElem?_cons_zero, List.getElem?_cons_succ] at x0 x1 x2 x3
  clear hx
  go_enter Try.func7, Try.ntmps7
  go_wp2_with fail
  refine above_nil.mono ?_
  rintro _ w2 ⟨rfl, rfl⟩
  go_wp2_with fail
  refine bodyPost_ret (v := .agg #[.int .u64 0, .bool false, .slice none 0 0, .int .i64 1]) (by simp [results, Try.func7, go_sem, x0, x1, x2, x3]) rfl ?_
  exact ⟨rfl, hB.out⟩
set_option maxRecDepth 100000 in
theorem donil6_b {a l on key : Int} {w : World} : Calls Try.prog 7 #[.nilIface, .int .u64 a, .int .u64 l, .agg #[.int .i64 6, .int .i64 on, .int .u64 key]] w fun en w' => en = .returned (.agg #[.int .u64 0, .bool false, .slice none 0 0, .int .i64 1]) ∧ Below w.heap.size w w' := by
  have hB := Lib.hid ((((Below.refl w.heap.size w).alloc (Nat.le_refl _) (.cells #[.int .i64 6, .int .i64 on, .int .u64 key] 25)).alloc (by simp) (.cells #[.int .u64 0, .bool false, .slice none 0 0, .int .i64 1] 29)).alloc (by simp; omega) (.cells #[.int .u64 0, .bool false, .slice none 0 0, .int .i64 1] 29))
  have hx := (Blk.new (w.alloc (.cells #[.int .i64 6, .int .i64 on, .int .u64 key] 25)) 29 #[.int .u64 0, .bool false, .slice none 0 0, .int .i64 1]).alloc (.cells #[.int .u64 0, .bool false, .slice none 0 0, .int .i64 1] 29)
  rw [show (w.alloc (.cells #[.int .i64 6, .int .i64 on, .int .u64 key] 25)).heap.size = w.heap.size + 1 by simp] at hx
  have x0 := hx.cell 0
  have x1 := hx.cell 1
  have x2 := hx.cell 2
  have x3 := hx.cell 3
  simp only [List.getElem?_toArray, List.getElem?_cons_zero, List.getElem?_cons_succ] at x0 x1 x2 x3
  clear hx
  go_enter Try.func7, Try.ntmps7
  go_wp2_with fail
  refine firstk_nil.mono ?_
  rintro _ w2 ⟨rfl, rfl⟩
  go_wp2_with fail
  refine bodyPost_ret (v := .agg #[.int .u64 0, .bool false, .slice none 0 0, .int .i64 1]) (by simp [results, Try.func7, go_sem, x0, x1, x2, x3]) rfl ?_
  exact ⟨rfl, hB.out⟩
set_option maxRecDepth 100000 in
theorem donil7_b {a l on key : Int} {w : World} : Calls Try.prog 7 #[.nilIface, .int .u64 a, .int .u64 l, .agg #[.int .i64 7, .int .i64 on, .int .u64 key]] w fun en w' => en = .returned (.agg #[.int .u64 0, .bool false, .slice none 0 0, .int .i64 1]) ∧ Below w.heap.size w w' := by
  have hB := Lib.hid (((((Below.refl w.heap.size w).alloc (Nat.le_refl _) (.cells #[.int .i64 7, .int .i64 on, .int .u64 key] 25)).alloc (by simp) (.cells #[.int .u64 0, .bool false, .slice none 0 0, .int .i64 1] 29)).alloc (by simp; omega) (.cells #[.int .u64 0, .bool false, .slice none 0 0, .int .i64 1] 29)).alloc (by simp; omega) (.cells #[.slice none 0 0] 22))
  have hx := ((Blk.new (w.alloc (.cells #[.int .i64 7, .int .i64 on, .int .u64 key] 25)) 29 #[.int .u64 0, .bool false, .slice none 0 0, .int .i64 1]).alloc (.cells #[.int .u64 0, .bool false, .slice none 0 0, .int .i64 1] 29)).alloc (.cells #[.slice none 0 0] 22)
  rw [show (w.alloc (.cells #[.int .i64 7, .int .i64 on, .int .u64 key] 25)).heap.size = w.heap.size + 1 by simp] at hx
  have x0 := hx.cell 0
  have x1 := hx.cell 1
  have x2 := hx.cell 2
  have x3 := hx.cell 3
  simp only [List.getElem?_toArray, List.getElem?_cons_zero, List.getElem?_cons_succ] at x0 x1 x2 x3
  clear hx
  go_enter Try.func7, Try.ntmps7
  go_wp2_with fail
  refine keys_nil.mono ?_
  rintro _ w2 ⟨rfl, rfl⟩
  go_wp2_with fail
  refine bodyPost_ret (v := .agg #[.int .u64 0, .bool false, .slice none 0 0, .int .i64 1]) (by simp [results, Try.func7, go_sem, x0, x1, x2, x3]) rfl ?_
  exact ⟨rfl, hB.out⟩
set_option maxRecDepth 100000 in
theorem donil8_b {a l on key : Int} {w : World} : Calls Try.prog 7 #[.nilIface, .int .u64 a, .int .u64 l, .agg #[.int .i64 8, .int .i64 on, .int .u64 key]] w fun en w' => en = .returned (.agg #[.int .u64 0, .bool false, .slice none 0 0, .int .i64 1]) ∧ Below w.heap.size w w' := by
  have hB := Lib.hid ((((Below.refl w.heap.size w).alloc (Nat.le_refl _) (.cells #[.int .i64 8, .int .i64 on, .int .u64 key] 25)).alloc (by simp) (.cells #[.int .u64 0, .bool false, .slice none 0 0, .int .i64 1] 29)).alloc (by simp; omega) (.cells #[.int .u64 0, .bool false, .slice none 0 0, .int .i64 1] 29))
  have hx := (Blk.new (w.alloc (.cells #[.int .i64 8, .int .i64 on, .int .u64 key] 25)) 29 #[.int .u64 0, .bool false, .slice none 0 0, .int .i64 1]).alloc (.cells #[.int .u64 0, .bool false, .slice none 0 0, .int .i64 1] 29)
  rw [show (w.alloc (.cells #[.int .i64 8, .int .i64 on, .int .u64 key] 25)).heap.size = w.heap.size + 1 by simp] at hx
  have x0 := hx.cell 0
  have x1 := hx.cell 1
  have x2 := hx.cell 2
  have x3 := hx.cell 3
  simp only [List.getElem?_toArray, List.getElem?_cons_zero, List.getElem?_cons_succ] at x0 x1 x2 x3
  clear hx
  go_enter Try.func7, Try.ntmps7
  go_wp2_with fail
  refine (clear_nil (key := 0)).mono ?_
  rintro _ w2 ⟨rfl, rfl⟩
  go_wp2_with fail
  refine bodyPost_ret (v := .agg #[.int .u64 0, .bool false, .slice none 0 0, .int .i64 1]) (by simp [results, Try.func7, go_sem, x0, x1, x2, x3]) rfl ?_
  exact ⟨rfl, hB.out⟩
set_option maxRecDepth 100000 in
theorem donil9_b {a l on key : Int} {w : World} : Calls Try.prog 7 #[.nilIface, .int .u64 a, .int .u64 l, .agg #[.int .i64 9, .int .i64 on, .int .u64 key]] w fun en w' => en = .returned (.agg #[.int .u64 0, .bool false, .slice none 0 0, .int .i64 1]) ∧ Below w.heap.size w w' := by
  have hB := Lib.hid ((((Below.refl w.heap.size w).alloc (Nat.le_refl _) (.cells #[.int .i64 9, .int .i64 on, .int .u64 key] 25)).alloc (by simp) (.cells #[.int .u64 0, .bool false, .slice none 0 0, .int .i64 1] 29)).alloc (by simp; omega) (.cells #[.int .u64 0, .bool false, .slice none 0 0, .int .i64 1] 29))
  have hx := (Blk.new (w.alloc (.cells #[.int .i64 9, .int .i64 on, .int .u64 key] 25)) 29 #[.int .u64 0, .bool false, .slice none 0 0, .int .i64 1]).alloc (.cells #[.int .u64 0, .bool false, .slice none 0 0, .int .i64 1] 29)
  rw [show (w.alloc (.cells #[.int .i64 9, .int .i64 on, .int .u64 key] 25)).heap.size = w.heap.size + 1 by simp] at hx
  have x0 := hx.cell 0
  have x1 := hx.cell 1
  have x2 := hx.cell 2
  have x3 := hx.cell 3
  simp only [List.getElem?_toArray, List.getElem?_cons_zero, List.getElem?_cons_succ] at x0 x1 x2 x3
  clear hx
  go_enter Try.func7, Try.ntmps7
  go_wp2_with fail
  refine drop_nil.mono ?_
  rintro _ w2 ⟨rfl, rfl⟩
  go_wp2_with fail
  refine bodyPost_ret (v := .agg #[.int .u64 0, .bool false, .slice none 0 0, .int .i64 1]) (by simp [results, Try.func7, go_sem, x0, x1, x2, x3]) rfl ?_
  exact ⟨rfl, hB.out⟩
set_option maxRecDepth 100000 in
theorem donil0_b {a l on key kd : Int} (hk : kd < 1 ∨ 9 < kd) {w : World} : Calls Try.prog 7 #[.nilIface, .int .u64 a, .int .u64 l, .agg #[.int .i64 kd, .int .i64 on, .int .u64 key]] w fun en w' => en = .returned (.agg #[.int .u64 0, .bool false, .slice none 0 0, .int .i64 0]) ∧ Below w.heap.size w w' := by
  have hB := Lib.hid ((((Below.refl w.heap.size w).alloc (Nat.le_refl _) (.cells #[.int .i64 kd, .int .i64 on, .int .u64 key] 25)).alloc (by simp) (.cells #[.int .u64 0, .bool false, .slice none 0 0, .int .i64 0] 29)).alloc (by simp; omega) (.cells #[.int .u64 0, .bool false, .slice none 0 0, .int .i64 0] 29))
  have hx := (Blk.new (w.alloc (.cells #[.int .i64 kd, .int .i64 on, .int .u64 key] 25)) 29 #[.int .u64 0, .bool false, .slice none 0 0, .int .i64 0]).alloc (.cells #[.int .u64 0, .bool false, .slice none 0 0, .int .i64 0] 29)
  rw [show (w.alloc (.cells #[.int .i64 kd, .int .i64 on, .int .u64 key] 25)).heap.size = w.heap.size + 1 by simp] at hx
  have x0 := hx.cell 0
  have x1 := hx.cell 1
  have x2 := hx.cell 2
  have x3 := hx.cell 3
  simp only [List.getElem?_toArray, List.getElem?_cons_zero, List.getElem?_cons_succ] at x0 x1 x2 x3
  clear hx
  have z1 : (kd == 1) = false := by simp; omega
  have z2 : (kd == 2) = false := by simp; omega
  have z3 : (kd == 3) = false := by simp; omega
  have z4 : (kd == 4) = false := by simp; omega
  have z5 : (kd == 5) = false := by simp; omega
  have z6 : (kd == 6) = false := by simp; omega
  have z7 : (kd == 7) = false := by simp; omega
  have z8 : (kd == 8) = false := by simp; omega
  have z9 : (kd == 9) = false := by simp; omega
  clear hk
  go_enter Try.func7, Try.ntmps7
  go_wp2_with fail
  refine bodyPost_ret (v := .agg #[.int .u64 0, .bool false, .slice none 0 0, .int .i64 0]) (by simp [results, Try.func7, go_sem, x0, x1, x2, x3]) rfl ?_
  exact ⟨rfl, hB.out⟩
end Go.Proofs.Ytcohopobjppmaaa
