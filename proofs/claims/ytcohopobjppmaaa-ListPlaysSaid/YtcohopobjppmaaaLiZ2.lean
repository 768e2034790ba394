/- The document's answer to a step, kind by kind, by contract. (printed by ans.py) -/
import Derived.Test.YtcohopobjppmaaaLiZ1
import Derived.Test.YtcohopobjppmaaaLiX2
import Derived.Test.YtcohopobjppmaaaMix
namespace Go.Proofs.Ytcohopobjppmaaa
open Go.RowKit
set_option maxHeartbeats 4000000
set_option linter.unusedVariables false
set_option linter.unusedSimpArgs false
/-- the document's answer -/
def AnsP (v0 : Value) (w : World) (A : Int × Bool × List Int × Int × List Int) (e : Ending) (w' : World) : Prop :=
  ∃ v7 v', e = .returned (.tuple #[.agg #[.int .u64 A.1, .bool A.2.1, v7, .int .i64 A.2.2.2.1], v']) ∧ Lies w' v7 A.2.2.1 ∧ Lies w' v' A.2.2.2.2 ∧ flat v' A.2.2.2.2.length ∧ Below w.heap.size w w' ∧ (v7 = v0 ∨ v7 = .slice none 0 0) ∧ (v' = v0 ∨ v' = .slice none 0 0 ∨ ∀ g o n c, v' = .slice (some ⟨g, o, none⟩) n c → w.heap.size ≤ g)
theorem Lies.nil (w : World) : Lies w (.slice none 0 0) [] := Lies.empty none 0 fun _ => rfl

set_option maxRecDepth 100000 in
theorem ans3_b {on key : Int} {v : Value} {l : List Int} {space : Bool} {w : World} (hL : Lies w v l) (hfl : flat v l.length) (hn : l.length ≤ 60000) : Calls Try.prog 17 #[v, .agg #[.int .i64 3, .int .i64 on, .int .u64 key], .bool space] w (AnsP v w (0, rHas l key, [], 0, l)) := by
  have hC := Lib.hid (rhas_b (key := key) (((hL.alloc (.cells #[.int .i64 3, .int .i64 on, .int .u64 key] 25)).alloc (.cells #[.int .u64 0, .bool false, .slice none 0 0, .int .i64 0] 29)).alloc (.cells #[.int .u64 0, .bool false, .slice none 0 0, .int .i64 0] 29)) (by omega))
  generalize rHas l key = b at *
  have hL3 := Lib.hid (((hL.alloc (.cells #[.int .i64 3, .int .i64 on, .int .u64 key] 25)).alloc (.cells #[.int .u64 0, .bool b, .slice none 0 0, .int .i64 0] 29)).alloc (.cells #[.int .u64 0, .bool b, .slice none 0 0, .int .i64 0] 29))
  have hB := Lib.hid ((((Below.refl w.heap.size w).alloc (Nat.le_refl _) (.cells #[.int .i64 3, .int .i64 on, .int .u64 key] 25)).alloc (by simp) (.cells #[.int .u64 0, .bool b, .slice none 0 0, .int .i64 0] 29)).alloc (by simp; omega) (.cells #[.int .u64 0, .bool b, .slice none 0 0, .int .i64 0] 29))
  have hx := (Blk.new (w.alloc (.cells #[.int .i64 3, .int .i64 on, .int .u64 key] 25)) 29 #[.int .u64 0, .bool b, .slice none 0 0, .int .i64 0]).alloc (.cells #[.int .u64 0, .bool b, .slice none 0 0, .int .i64 0] 29)
  rw [show (w.alloc (.cells #[.int .i64 3, .int .i64 on, .int .u64 key] 25)).heap.size = w.heap.size + 1 by simp] at hx
  have x0 := hx.cell 0
  have x1 := hx.cell 1
  have x2 := hx.cell 2
  have x3 := hx.cell 3
  simp only [List.getElem?_toArray, List.getElem?_cons_zero, List.getElem?_cons_succ] at x0 x1 x2 x3
  clear hx hL
  go_enter Try.func17, Try.ntmps17
  go_wp2_with fail
  refine (hC.out).mono ?_
  rintro _ w2 ⟨rfl, rfl⟩
  go_wp2_with fail
  refine bodyPost_ret (v := .tuple #[.agg #[.int .u64 0, .bool b, .slice none 0 0, .int .i64 0], v]) (by simp [results, Try.func17, go_sem, x0, x1, x2, x3]) rfl ?_
  exact ⟨_, _, rfl, Lies.nil _, hL3.out, hfl, hB.out, .inr rfl, .inl rfl⟩
set_option maxRecDepth 100000 in
theorem ans5_b {on key : Int} {v : Value} {l : List Int} {space : Bool} {w : World} (hL : Lies w v l) (hfl : flat v l.length) (hn : l.length ≤ 60000) : Calls Try.prog 17 #[v, .agg #[.int .i64 5, .int .i64 on, .int .u64 key], .bool space] w (AnsP v w ((rAbove l key).1, (rAbove l key).2, [], 0, l)) := by
  have hC := Lib.hid (rabove_b (key := key) (((hL.alloc (.cells #[.int .i64 5, .int .i64 on, .int .u64 key] 25)).alloc (.cells #[.int .u64 0, .bool false, .slice none 0 0, .int .i64 0] 29)).alloc (.cells #[.int .u64 0, .bool false, .slice none 0 0, .int .i64 0] 29)) (by omega))
  generalize (rAbove l key).1 = x at *
  generalize (rAbove l key).2 = b at *
  have hL3 := Lib.hid (((hL.alloc (.cells #[.int .i64 5, .int .i64 on, .int .u64 key] 25)).alloc (.cells #[.int .u64 x, .bool b, .slice none 0 0, .int .i64 0] 29)).alloc (.cells #[.int .u64 x, .bool b, .slice none 0 0, .int .i64 0] 29))
  have hB := Lib.hid ((((Below.refl w.heap.size w).alloc (Nat.le_refl _) (.cells #[.int .i64 5, .int .i64 on, .int .u64 key] 25)).alloc (by simp) (.cells #[.int .u64 x, .bool b, .slice none 0 0, .int .i64 0] 29)).alloc (by simp; omega) (.cells #[.int .u64 x, .bool b, .slice none 0 0, .int .i64 0] 29))
  have hx := (Blk.new (w.alloc (.cells #[.int .i64 5, .int .i64 on, .int .u64 key] 25)) 29 #[.int .u64 x, .bool b, .slice none 0 0, .int .i64 0]).alloc (.cells #[.int .u64 x, .bool b, .slice none 0 0, .int .i64 0] 29)
  rw [show (w.alloc (.cells #[.int .i64 5, .int .i64 on, .int .u64 key] 25)).heap.size = w.heap.size + 1 by simp] at hx
  have x0 := hx.cell 0
  have x1 := hx.cell 1
  have x2 := hx.cell 2
  have x3 := hx.cell 3
  simp only [List.getElem?_toArray, List.getElem?_cons_zero, List.getElem?_cons_succ] at x0 x1 x2 x3
  clear hx hL
  go_enter Try.func17, Try.ntmps17
  go_wp2_with fail
  refine (hC.out).mono ?_
  rintro _ w2 ⟨rfl, rfl⟩
  go_wp2_with fail
  refine bodyPost_ret (v := .tuple #[.agg #[.int .u64 x, .bool b, .slice none 0 0, .int .i64 0], v]) (by simp [results, Try.func17, go_sem, x0, x1, x2, x3]) rfl ?_
  exact ⟨_, _, rfl, Lies.nil _, hL3.out, hfl, hB.out, .inr rfl, .inl rfl⟩
set_option maxRecDepth 100000 in
theorem ans4_b {on key : Int} {v : Value} {l : List Int} {space : Bool} {w : World} (hL : Lies w v l) (hfl : flat v l.length) (hn : l.length ≤ 60000) : Calls Try.prog 17 #[v, .agg #[.int .i64 4, .int .i64 on, .int .u64 key], .bool space] w (AnsP v w ((l.length : Int), false, [], 0, l)) := by
  obtain ⟨A, c, rfl, hc, -⟩ := hL.of
  have hww : IntKind.u64.wrap (l.length : Int) = (l.length : Int) := by rw [IntKind.wrap_u64]; omega
  have hnn : (l.length : Int) ≤ 60000 := by omega
  generalize hnl : l.length = nl at *
  have hnl := Lib.hid hnl
  have hL3 := Lib.hid (((hL.alloc (.cells #[.int .i64 4, .int .i64 on, .int .u64 key] 25)).alloc (.cells #[.int .u64 (nl : Int), .bool false, .slice none 0 0, .int .i64 0] 29)).alloc (.cells #[.int .u64 (nl : Int), .bool false, .slice none 0 0, .int .i64 0] 29))
  have hB := Lib.hid ((((Below.refl w.heap.size w).alloc (Nat.le_refl _) (.cells #[.int .i64 4, .int .i64 on, .int .u64 key] 25)).alloc (by simp) (.cells #[.int .u64 (nl : Int), .bool false, .slice none 0 0, .int .i64 0] 29)).alloc (by simp; omega) (.cells #[.int .u64 (nl : Int), .bool false, .slice none 0 0, .int .i64 0] 29))
  have hx := (Blk.new (w.alloc (.cells #[.int .i64 4, .int .i64 on, .int .u64 key] 25)) 29 #[.int .u64 (nl : Int), .bool false, .slice none 0 0, .int .i64 0]).alloc (.cells #[.int .u64 (nl : Int), .bool false, .slice none 0 0, .int .i64 0] 29)
  rw [show (w.alloc (.cells #[.int .i64 4, .int .i64 on, .int .u64 key] 25)).heap.size = w.heap.size + 1 by simp] at hx
  have x0 := hx.cell 0
  have x1 := hx.cell 1
  have x2 := hx.cell 2
  have x3 := hx.cell 3
  simp only [List.getElem?_toArray, List.getElem?_cons_zero, List.getElem?_cons_succ] at x0 x1 x2 x3
  clear hx hL
  go_enter Try.func17, Try.ntmps17
  go_wp2_with fail
  refine bodyPost_ret (v := .tuple #[.agg #[.int .u64 (nl : Int), .bool false, .slice none 0 0, .int .i64 0], .slice A nl c]) (by simp [results, Try.func17, go_sem, x0, x1, x2, x3]) rfl ?_
  exact ⟨_, _, rfl, Lies.nil _, hL3.out, by show flat _ l.length; rw [hnl.out]; exact hfl, hB.out, .inr rfl, .inl rfl⟩
set_option maxRecDepth 100000 in
theorem ans7_b {on key : Int} {v : Value} {l : List Int} {space : Bool} {w : World} (hL : Lies w v l) (hfl : flat v l.length) (hn : l.length ≤ 60000) : Calls Try.prog 17 #[v, .agg #[.int .i64 7, .int .i64 on, .int .u64 key], .bool space] w (AnsP v w (0, false, l, 0, l)) := by
  obtain ⟨A, c, rfl, hc, -⟩ := hL.of
  have hww : IntKind.u64.wrap (l.length : Int) = (l.length : Int) := by rw [IntKind.wrap_u64]; omega
  have hnn : (l.length : Int) ≤ 60000 := by omega
  generalize hnl : l.length = nl at *
  have hnl := Lib.hid hnl
  have hL3 := Lib.hid (((hL.alloc (.cells #[.int .i64 7, .int .i64 on, .int .u64 key] 25)).alloc (.cells #[.int .u64 0, .bool false, .slice A nl c, .int .i64 0] 29)).alloc (.cells #[.int .u64 0, .bool false, .slice A nl c, .int .i64 0] 29))
  have hB := Lib.hid ((((Below.refl w.heap.size w).alloc (Nat.le_refl _) (.cells #[.int .i64 7, .int .i64 on, .int .u64 key] 25)).alloc (by simp) (.cells #[.int .u64 0, .bool false, .slice A nl c, .int .i64 0] 29)).alloc (by simp; omega) (.cells #[.int .u64 0, .bool false, .slice A nl c, .int .i64 0] 29))
  have hx := (Blk.new (w.alloc (.cells #[.int .i64 7, .int .i64 on, .int .u64 key] 25)) 29 #[.int .u64 0, .bool false, .slice A nl c, .int .i64 0]).alloc (.cells #[.int .u64 0, .bool false, .slice A nl c, .int .i64 0] 29)
  rw [show (w.alloc (.cells #[.int .i64 7, .int .i64 on, .int .u64 key] 25)).heap.size = w.heap.size + 1 by simp] at hx
  have x0 := hx.cell 0
  have x1 := hx.cell 1
  have x2 := hx.cell 2
  have x3 := hx.cell 3
  simp only [List.getElem?_toArray, List.getElem?_cons_zero, List.getElem?_cons_succ] at x0 x1 x2 x3
  clear hx hL
  go_enter Try.func17, Try.ntmps17
  go_wp2_with fail
  refine bodyPost_ret (v := .tuple #[.agg #[.int .u64 0, .bool false, .slice A nl c, .int .i64 0], .slice A nl c]) (by simp [results, Try.func17, go_sem, x0, x1, x2, x3]) rfl ?_
  exact ⟨_, _, rfl, hL3.out, hL3.out, by show flat _ l.length; rw [hnl.out]; exact hfl, hB.out, .inl rfl, .inl rfl⟩
set_option maxRecDepth 100000 in
theorem ans8_b {on key : Int} {v : Value} {l : List Int} {space : Bool} {w : World} (hL : Lies w v l) (hfl : flat v l.length) (hn : l.length ≤ 60000) : Calls Try.prog 17 #[v, .agg #[.int .i64 8, .int .i64 on, .int .u64 key], .bool space] w (AnsP v w ((l.length : Int), false, [], 0, [])) := by
  obtain ⟨A, c, rfl, hc, -⟩ := hL.of
  have hww : IntKind.u64.wrap (l.length : Int) = (l.length : Int) := by rw [IntKind.wrap_u64]; omega
  have hnn : (l.length : Int) ≤ 60000 := by omega
  generalize hnl : l.length = nl at *
  have hnl := Lib.hid hnl
  have hL3 := Lib.hid (((hL.alloc (.cells #[.int .i64 8, .int .i64 on, .int .u64 key] 25)).alloc (.cells #[.int .u64 (nl : Int), .bool false, .slice none 0 0, .int .i64 0] 29)).alloc (.cells #[.int .u64 (nl : Int), .bool false, .slice none 0 0, .int .i64 0] 29))
  have hB := Lib.hid ((((Below.refl w.heap.size w).alloc (Nat.le_refl _) (.cells #[.int .i64 8, .int .i64 on, .int .u64 key] 25)).alloc (by simp) (.cells #[.int .u64 (nl : Int), .bool false, .slice none 0 0, .int .i64 0] 29)).alloc (by simp; omega) (.cells #[.int .u64 (nl : Int), .bool false, .slice none 0 0, .int .i64 0] 29))
  have hx := (Blk.new (w.alloc (.cells #[.int .i64 8, .int .i64 on, .int .u64 key] 25)) 29 #[.int .u64 (nl : Int), .bool false, .slice none 0 0, .int .i64 0]).alloc (.cells #[.int .u64 (nl : Int), .bool false, .slice none 0 0, .int .i64 0] 29)
  rw [show (w.alloc (.cells #[.int .i64 8, .int .i64 on, .int .u64 key] 25)).heap.size = w.heap.size + 1 by simp] at hx
  have x0 := hx.cell 0
  have x1 := hx.cell 1
  have x2 := hx.cell 2
  have x3 := hx.cell 3
  simp only [List.getElem?_toArray, List.getElem?_cons_zero, List.getElem?_cons_succ] at x0 x1 x2 x3
  clear hx hL
  go_enter Try.func17, Try.ntmps17
  go_wp2_with fail
  refine bodyPost_ret (v := .tuple #[.agg #[.int .u64 (nl : Int), .bool false, .slice none 0 0, .int .i64 0], .slice none 0 0]) (by simp [results, Try.func17, go_sem, x0, x1, x2, x3]) rfl ?_
  exact ⟨_, _, rfl, Lies.nil _, Lies.nil _, .inl ⟨rfl, rfl⟩, hB.out, .inr rfl, .inr (.inl rfl)⟩
set_option maxRecDepth 100000 in
theorem ans9_b {on key : Int} {v : Value} {l : List Int} {space : Bool} {w : World} (hL : Lies w v l) (hfl : flat v l.length) (hn : l.length ≤ 60000) : Calls Try.prog 17 #[v, .agg #[.int .i64 9, .int .i64 on, .int .u64 key], .bool space] w (AnsP v w (0, false, [], 0, [])) := by
  have hL3 := Lib.hid (((hL.alloc (.cells #[.int .i64 9, .int .i64 on, .int .u64 key] 25)).alloc (.cells #[.int .u64 0, .bool false, .slice none 0 0, .int .i64 0] 29)).alloc (.cells #[.int .u64 0, .bool false, .slice none 0 0, .int .i64 0] 29))
  have hB := Lib.hid ((((Below.refl w.heap.size w).alloc (Nat.le_refl _) (.cells #[.int .i64 9, .int .i64 on, .int .u64 key] 25)).alloc (by simp) (.cells #[.int .u64 0, .bool false, .slice none 0 0, .int .i64 0] 29)).alloc (by simp; omega) (.cells #[.int .u64 0, .bool false, .slice none 0 0, .int .i64 0] 29))
  have hx := (Blk.new (w.alloc (.cells #[.int .i64 9, .int .i64 on, .int .u64 key] 25)) 29 #[.int .u64 0, .bool false, .slice none 0 0, .int .i64 0]).alloc (.cells #[.int .u64 0, .bool false, .slice none 0 0, .int .i64 0] 29)
  rw [show (w.alloc (.cells #[.int .i64 9, .int .i64 on, .int .u64 key] 25)).heap.size = w.heap.size + 1 by simp] at hx
  have x0 := hx.cell 0
  have x1 := hx.cell 1
  have x2 := hx.cell 2
  have x3 := hx.cell 3
  simp only [List.getElem?_toArray, List.getElem?_cons_zero, List.getElem?_cons_succ] at x0 x1 x2 x3
  clear hx hL
  go_enter Try.func17, Try.ntmps17
  go_wp2_with fail
  refine bodyPost_ret (v := .tuple #[.agg #[.int .u64 0, .bool false, .slice none 0 0, .int .i64 0], .slice none 0 0]) (by simp [results, Try.func17, go_sem, x0, x1, x2, x3]) rfl ?_
  exact ⟨_, _, rfl, Lies.nil _, Lies.nil _, .inl ⟨rfl, rfl⟩, hB.out, .inr rfl, .inr (.inl rfl)⟩
set_option maxRecDepth 100000 in
theorem ans0_b {on key : Int} {v : Value} {l : List Int} {space : Bool} {w : World} (hL : Lies w v l) (hfl : flat v l.length) (hn : l.length ≤ 60000) {kd : Int} (hk : kd < 1 ∨ 9 < kd) : Calls Try.prog 17 #[v, .agg #[.int .i64 kd, .int .i64 on, .int .u64 key], .bool space] w (AnsP v w (0, false, [], 0, l)) := by
  have z1 : (kd == 1) = false := by simp; omega
  have z2 : (kd == 2) = false := by simp; omega
  have z3 : (kd == 3) = false := by simp; omega
  have z4 : (kd == 4) = false := by simp; omega
  have z5 : (kd == 5) = false := by simp; omega
  have z6 : (kd == 6) = false := by simp; omega
  have z7 : (kd == 7) = false := by simp; omega
  have z8 : (kd == 8) = false := by simp; omega
  have z9 : (kd == 9) = false := by simp; omega
  clear hk
  have hL3 := Lib.hid (((hL.alloc (.cells #[.int .i64 kd, .int .i64 on, .int .u64 key] 25)).alloc (.cells #[.int .u64 0, .bool false, .slice none 0 0, .int .i64 0] 29)).alloc (.cells #[.int .u64 0, .bool false, .slice none 0 0, .int .i64 0] 29))
  have hB := Lib.hid ((((Below.refl w.heap.size w).alloc (Nat.le_refl _) (.cells #[.int .i64 kd, .int .i64 on, .int .u64 key] 25)).alloc (by simp) (.cells #[.int .u64 0, .bool false, .slice none 0 0, .int .i64 0] 29)).alloc (by simp; omega) (.cells #[.int .u64 0, .bool false, .slice none 0 0, .int .i64 0] 29))
  have hx := (Blk.new (w.alloc (.cells #[.int .i64 kd, .int .i64 on, .int .u64 key] 25)) 29 #[.int .u64 0, .bool false, .slice none 0 0, .int .i64 0]).alloc (.cells #[.int .u64 0, .bool false, .slice none 0 0, .int .i64 0] 29)
  rw [show (w.alloc (.cells #[.int .i64 kd, .int .i64 on, .int .u64 key] 25)).heap.size = w.heap.size + 1 by simp] at hx
  have x0 := hx.cell 0
  have x1 := hx.cell 1
  have x2 := hx.cell 2
  have x3 := hx.cell 3
  simp only [List.getElem?_toArray, List.getElem?_cons_zero, List.getElem?_cons_succ] at x0 x1 x2 x3
  clear hx hL
  go_enter Try.func17, Try.ntmps17
  go_wp2_with fail
  refine bodyPost_ret (v := .tuple #[.agg #[.int .u64 0, .bool false, .slice none 0 0, .int .i64 0], v]) (by simp [results, Try.func17, go_sem, x0, x1, x2, x3]) rfl ?_
  exact ⟨_, _, rfl, Lies.nil _, hL3.out, hfl, hB.out, .inr rfl, .inl rfl⟩
end Go.Proofs.Ytcohopobjppmaaa
