/- PartNil: no block, no functions; the law's walk. -/
import Derived.Test.YtcgdpclhlepofaaPaW
namespace Go.Proofs.Ytcgdpclhlepofaa
open Go.RowKit
set_option maxHeartbeats 4000000
set_option linter.unusedVariables false
set_option linter.unusedSimpArgs false

def NilP (B : Nat) (w : World) (v : Value) (e : Ending) (w' : World) : Prop := e = .returned v ∧ Below B w w'
def zp : Value := .agg #[.int .i64 0, .int .u64 0, .int .u64 0]
theorem pqn_b (q : Int) (w : World) : Calls Try.prog 7 #[.nilIface, .int .u64 q] w (NilP w.heap.size w (.tuple #[.agg #[.int .i64 0, .int .u64 0, .int .u64 0], .int .i64 1])) := by
  have HB := Lib.hid ((Below.refl w.heap.size w).alloc (Nat.le_refl _) (.cells #[.int .i64 0, .int .u64 0, .int .u64 0] 25))
  go_enter Try.func7, Try.ntmps7
  go_wp2
  refine bodyPost_ret (v := .tuple #[.agg #[.int .i64 0, .int .u64 0, .int .u64 0], .int .i64 1]) (by simp [results, Try.f7, go_sem]) rfl ?_
  exact ⟨rfl, HB.out⟩
theorem pln_b (q : Int) (w : World) : Calls Try.prog 8 #[.nilIface, .int .u64 q] w (NilP w.heap.size w (.tuple #[.agg #[.int .i64 0, .int .u64 0, .int .u64 0], .int .i64 1])) := by
  have HB := Lib.hid ((Below.refl w.heap.size w).alloc (Nat.le_refl _) (.cells #[.int .i64 0, .int .u64 0, .int .u64 0] 25))
  go_enter Try.func8, Try.ntmps8
  go_wp2
  refine bodyPost_ret (v := .tuple #[.agg #[.int .i64 0, .int .u64 0, .int .u64 0], .int .i64 1]) (by simp [results, Try.f8, go_sem]) rfl ?_
  exact ⟨rfl, HB.out⟩
theorem readn_b (k f c : Int) (w : World) : Calls Try.prog 9 #[.agg #[.int .i64 k, .int .u64 f, .int .u64 c], .nilFunc] w (NilP w.heap.size w (.tuple #[.slice none 0 0, .int .i64 1])) := by
  have HB := Lib.hid ((Below.refl w.heap.size w).alloc (Nat.le_refl _) (.cells #[.int .i64 k, .int .u64 f, .int .u64 c] 25))
  go_enter Try.func9, Try.ntmps9
  go_wp2
  go_ret2
  exact ⟨rfl, HB.out⟩
theorem turn1_b (t : Nat) (k f c : Int) (w : World) : Calls Try.prog 10 #[.agg #[.int .i64 k, .int .u64 f, .int .u64 c], .nilFunc, .func (.func 11) #[.pointer (some ⟨t, 0, none⟩)] #[], .func (.func 12) #[] #[]] w (NilP w.heap.size w (.int .i64 1)) := by
  have HB := Lib.hid (((Below.refl w.heap.size w).alloc (Nat.le_refl _) (.cells #[.int .i64 k, .int .u64 f, .int .u64 c] 25)).alloc (by simp) (.cells #[.func (.func 12) #[] #[]] 37))
  go_enter Try.func10, Try.ntmps10
  go_wp2
  go_ret
  exact ⟨rfl, HB.out⟩
theorem turn2_b (t : Nat) (k f c : Int) (w : World) : Calls Try.prog 10 #[.agg #[.int .i64 k, .int .u64 f, .int .u64 c], .func (.func 13) #[.pointer (some ⟨t, 0, none⟩)] #[], .nilFunc, .func (.func 14) #[] #[]] w (NilP w.heap.size w (.int .i64 1)) := by
  have HB := Lib.hid (((Below.refl w.heap.size w).alloc (Nat.le_refl _) (.cells #[.int .i64 k, .int .u64 f, .int .u64 c] 25)).alloc (by simp) (.cells #[.func (.func 14) #[] #[]] 37))
  go_enter Try.func10, Try.ntmps10
  go_wp2
  go_ret
  exact ⟨rfl, HB.out⟩
theorem turn3_b (t : Nat) (k f c : Int) (w : World) : Calls Try.prog 10 #[.agg #[.int .i64 k, .int .u64 f, .int .u64 c], .func (.func 13) #[.pointer (some ⟨t, 0, none⟩)] #[], .func (.func 11) #[.pointer (some ⟨t, 0, none⟩)] #[], .nilFunc] w (NilP w.heap.size w (.int .i64 1)) := by
  have HB := Lib.hid (((Below.refl w.heap.size w).alloc (Nat.le_refl _) (.cells #[.int .i64 k, .int .u64 f, .int .u64 c] 25)).alloc (by simp) (.cells #[.nilFunc] 37))
  go_enter Try.func10, Try.ntmps10
  go_wp2
  go_ret
  exact ⟨rfl, HB.out⟩
theorem nodesnil_b (k f c : Int) (w : World) : Calls Try.prog 38 #[.nilIface, .agg #[.int .i64 k, .int .u64 f, .int .u64 c]] w (NilP w.heap.size w (.tuple #[.slice none 0 0, .int .i64 1])) := by
  have HB := Lib.hid ((Below.refl w.heap.size w).alloc (Nat.le_refl _) (.cells #[.int .i64 k, .int .u64 f, .int .u64 c] 25))
  go_enter Try.func38, Try.ntmps38
  go_wp2
  go_ret2
  exact ⟨rfl, HB.out⟩
theorem given_b (a k f c : Int) (w : World) : Calls Try.prog 15 #[.nilIface, .int .u64 a, .agg #[.int .i64 k, .int .u64 f, .int .u64 c]] w (NilP w.heap.size w (.int .i64 1)) := by
  have HB := Lib.hid ((Below.refl w.heap.size w).alloc (Nat.le_refl _) (.cells #[.int .i64 k, .int .u64 f, .int .u64 c] 25))
  go_enter Try.func15, Try.ntmps15
  go_wp2_with fail
  refine (nodesnil_b _ _ _ _).mono ?_
  rintro _ w2 ⟨rfl, hb2⟩
  have HB2 := Lib.hid (HB.out.trans (hb2.mono (by simp)))
  clear hb2 HB
  go_wp2
  go_ret
  exact ⟨rfl, HB2.out⟩
theorem backn_b (q k f c : Int) (w : World) : Calls Try.prog 16 #[.nilIface, .int .u64 q, .agg #[.int .i64 k, .int .u64 f, .int .u64 c]] w (NilP w.heap.size w (.int .i64 1)) := by
  have HB := Lib.hid ((Below.refl w.heap.size w).alloc (Nat.le_refl _) (.cells #[.int .i64 k, .int .u64 f, .int .u64 c] 25))
  go_enter Try.func16, Try.ntmps16
  go_wp2
  go_ret
  exact ⟨rfl, HB.out⟩
theorem eqp0 (w : World) : (binOp BinOp.eql 25 (.agg #[.int .i64 0, .int .u64 0, .int .u64 0]) (.agg #[.int .i64 0, .int .u64 0, .int .u64 0])).run Try.prog w = .ok (.bool true) w := by kernel_rfl
set_option maxRecDepth 100000 in
theorem partNil_walk {W : World} (k f c : Int) (W0 : World) (e0 : W0 = W := by rfl) :
    Calls Try.prog 3 #[.agg #[.int .i64 k, .int .u64 f, .int .u64 c]] W (TrueP W.heap.size W) := by
  have HB0 := Lib.hid ((Below.refl W.heap.size W).alloc (Nat.le_refl _) (.cells #[.int .i64 k, .int .u64 f, .int .u64 c] 25))
  have HP0 := Lib.hid (Blk.new W 25 #[.int .i64 k, .int .u64 f, .int .u64 c])
  have hnil : Lies (W.alloc (.cells #[.int .i64 k, .int .u64 f, .int .u64 c] 25)) (.slice none 0 0) [] := (Wl.nil _).lies
  go_enter Try.func3, Try.ntmps3
  go_wp2_with fail
  refine (filled_b (l := []) hnil (by simp) (by simp)).mono ?_
  rintro _ w1 ⟨t, q, ok, s1, F1, q1, dq, dq', rfl, f1, b1, hw1, ho1, hb1⟩
  obtain ⟨rfl, rfl⟩ : 18 = q ∧ true = ok := by have h1 := kp0_e.1; have h2 := kp0_e.2; rw [q1.out] at h1 h2; exact ⟨h1.symm, h2.symm⟩
  have HB1 := Lib.hid (HB0.out.trans (hb1.mono (by simp)))
  have HP1 := Lib.hid (HP0.out.below hb1 HP0.out.lt)
  clear hnil HB0 HP0 ho1 hb1 q1 hw1 f1 b1
  go_wp2_with fail
  refine (pqn_b _ _).mono ?_
  rintro _ w2 ⟨rfl, hb2⟩
  have HZ2 := Lib.hid (Blk.new w2 25 #[.int .i64 0, .int .u64 0, .int .u64 0])
  have hbz := (hb2.alloc hb2.size (.cells #[.int .i64 0, .int .u64 0, .int .u64 0] 25))
  have HB2 := Lib.hid (HB1.out.trans (hbz.mono HB1.out.size))
  have HP2 := Lib.hid (HP1.out.below hbz HP1.out.lt)
  have hlt2 : W.heap.size < w2.heap.size := Nat.lt_of_lt_of_le HP1.out.lt hb2.size
  clear hb2 hbz HB1 HP1
  go_wp2_with fail
  generalize w2.alloc (.cells #[.int .i64 0, .int .u64 0, .int .u64 0] 25) = w3 at *
  generalize w2.heap.size = z1 at *
  refine (pln_b _ _).mono ?_
  rintro _ w4 ⟨rfl, hb4⟩
  have HY4 := Lib.hid (Blk.new w4 25 #[.int .i64 0, .int .u64 0, .int .u64 0])
  have hbz := (hb4.alloc hb4.size (.cells #[.int .i64 0, .int .u64 0, .int .u64 0] 25))
  have HB4 := Lib.hid (HB2.out.trans (hbz.mono HB2.out.size))
  have HP4 := Lib.hid (HP2.out.below hbz HP2.out.lt)
  have HZ4 := Lib.hid (HZ2.out.below hbz HZ2.out.lt)
  clear hb4 hbz HB2 HP2 HZ2
  obtain ⟨p0, p1, p2⟩ : (w4.alloc (.cells #[.int .i64 0, .int .u64 0, .int .u64 0] 25)).cell? ⟨W.heap.size, 0, none⟩ = some (.int .i64 k) ∧ (w4.alloc (.cells #[.int .i64 0, .int .u64 0, .int .u64 0] 25)).cell? ⟨W.heap.size, 1, none⟩ = some (.int .u64 f) ∧ (w4.alloc (.cells #[.int .i64 0, .int .u64 0, .int .u64 0] 25)).cell? ⟨W.heap.size, 2, none⟩ = some (.int .u64 c) := ⟨HP4.out.cell 0, HP4.out.cell 1, HP4.out.cell 2⟩
  go_wp2_with fail
  generalize w4.alloc (.cells #[.int .i64 0, .int .u64 0, .int .u64 0] 25) = w5 at *
  generalize w4.heap.size = z2 at *
  refine (readn_b _ _ _ _).mono ?_
  rintro _ w6 ⟨rfl, hb6⟩
  have HB6 := Lib.hid (HB4.out.trans (hb6.mono HB4.out.size))
  have HP6 := Lib.hid (HP4.out.below hb6 HP4.out.lt)
  have HZ6 := Lib.hid (HZ4.out.below hb6 HZ4.out.lt)
  have HY6 := Lib.hid (HY4.out.below hb6 HY4.out.lt)
  clear hb6 HB4 HP4 HZ4 HY4 p0 p1 p2
  obtain ⟨p0, p1, p2⟩ : w6.cell? ⟨W.heap.size, 0, none⟩ = some (.int .i64 k) ∧ w6.cell? ⟨W.heap.size, 1, none⟩ = some (.int .u64 f) ∧ w6.cell? ⟨W.heap.size, 2, none⟩ = some (.int .u64 c) := ⟨HP6.out.cell 0, HP6.out.cell 1, HP6.out.cell 2⟩
  go_wp2_with fail
  refine (turn1_b t _ _ _ _).mono ?_
  rintro _ w7 ⟨rfl, hb7⟩
  have HB7 := Lib.hid (HB6.out.trans (hb7.mono HB6.out.size))
  have HP7 := Lib.hid (HP6.out.below hb7 HP6.out.lt)
  have HZ7 := Lib.hid (HZ6.out.below hb7 HZ6.out.lt)
  have HY7 := Lib.hid (HY6.out.below hb7 HY6.out.lt)
  clear hb7 HB6 HP6 HZ6 HY6 p0 p1 p2
  obtain ⟨p0, p1, p2⟩ : w7.cell? ⟨W.heap.size, 0, none⟩ = some (.int .i64 k) ∧ w7.cell? ⟨W.heap.size, 1, none⟩ = some (.int .u64 f) ∧ w7.cell? ⟨W.heap.size, 2, none⟩ = some (.int .u64 c) := ⟨HP7.out.cell 0, HP7.out.cell 1, HP7.out.cell 2⟩
  go_wp2_with fail
  refine (turn2_b t _ _ _ _).mono ?_
  rintro _ w8 ⟨rfl, hb8⟩
  have HB8 := Lib.hid (HB7.out.trans (hb8.mono HB7.out.size))
  have HP8 := Lib.hid (HP7.out.below hb8 HP7.out.lt)
  have HZ8 := Lib.hid (HZ7.out.below hb8 HZ7.out.lt)
  have HY8 := Lib.hid (HY7.out.below hb8 HY7.out.lt)
  clear hb8 HB7 HP7 HZ7 HY7 p0 p1 p2
  obtain ⟨p0, p1, p2⟩ : w8.cell? ⟨W.heap.size, 0, none⟩ = some (.int .i64 k) ∧ w8.cell? ⟨W.heap.size, 1, none⟩ = some (.int .u64 f) ∧ w8.cell? ⟨W.heap.size, 2, none⟩ = some (.int .u64 c) := ⟨HP8.out.cell 0, HP8.out.cell 1, HP8.out.cell 2⟩
  go_wp2_with fail
  refine (turn3_b t _ _ _ _).mono ?_
  rintro _ w9 ⟨rfl, hb9⟩
  have HB9 := Lib.hid (HB8.out.trans (hb9.mono HB8.out.size))
  have HP9 := Lib.hid (HP8.out.below hb9 HP8.out.lt)
  have HZ9 := Lib.hid (HZ8.out.below hb9 HZ8.out.lt)
  have HY9 := Lib.hid (HY8.out.below hb9 HY8.out.lt)
  clear hb9 HB8 HP8 HZ8 HY8 p0 p1 p2
  obtain ⟨p0, p1, p2⟩ : w9.cell? ⟨W.heap.size, 0, none⟩ = some (.int .i64 k) ∧ w9.cell? ⟨W.heap.size, 1, none⟩ = some (.int .u64 f) ∧ w9.cell? ⟨W.heap.size, 2, none⟩ = some (.int .u64 c) := ⟨HP9.out.cell 0, HP9.out.cell 1, HP9.out.cell 2⟩
  go_wp2_with fail
  refine (given_b _ _ _ _ _).mono ?_
  rintro _ w10 ⟨rfl, hb10⟩
  have HB10 := Lib.hid (HB9.out.trans (hb10.mono HB9.out.size))
  have HP10 := Lib.hid (HP9.out.below hb10 HP9.out.lt)
  have HZ10 := Lib.hid (HZ9.out.below hb10 HZ9.out.lt)
  have HY10 := Lib.hid (HY9.out.below hb10 HY9.out.lt)
  clear hb10 HB9 HP9 HZ9 HY9 p0 p1 p2
  obtain ⟨p0, p1, p2⟩ : w10.cell? ⟨W.heap.size, 0, none⟩ = some (.int .i64 k) ∧ w10.cell? ⟨W.heap.size, 1, none⟩ = some (.int .u64 f) ∧ w10.cell? ⟨W.heap.size, 2, none⟩ = some (.int .u64 c) := ⟨HP10.out.cell 0, HP10.out.cell 1, HP10.out.cell 2⟩
  go_wp2_with fail
  refine (backn_b _ _ _ _ _).mono ?_
  rintro _ w11 ⟨rfl, hb11⟩
  have HB11 := Lib.hid (HB10.out.trans (hb11.mono HB10.out.size))
  have HP11 := Lib.hid (HP10.out.below hb11 HP10.out.lt)
  have HZ11 := Lib.hid (HZ10.out.below hb11 HZ10.out.lt)
  have HY11 := Lib.hid (HY10.out.below hb11 HY10.out.lt)
  clear hb11 HB10 HP10 HZ10 HY10 p0 p1 p2
  obtain ⟨a0, a1, a2⟩ : w11.cell? ⟨z1, 0, none⟩ = some (.int .i64 0) ∧ w11.cell? ⟨z1, 1, none⟩ = some (.int .u64 0) ∧ w11.cell? ⟨z1, 2, none⟩ = some (.int .u64 0) := ⟨HZ11.out.cell 0, HZ11.out.cell 1, HZ11.out.cell 2⟩
  obtain ⟨b0, b1, b2⟩ : w11.cell? ⟨z2, 0, none⟩ = some (.int .i64 0) ∧ w11.cell? ⟨z2, 1, none⟩ = some (.int .u64 0) ∧ w11.cell? ⟨z2, 2, none⟩ = some (.int .u64 0) := ⟨HY11.out.cell 0, HY11.out.cell 1, HY11.out.cell 2⟩
  have hq := eqp0 w11
  go_wp2_with (go_at_call 17; refine (num_b _ _).mono ?_; rintro e _ ⟨rfl, rfl⟩)
  refine (works_b _).mono ?_
  rintro _ wf ⟨rfl, hbf⟩
  have HBF := Lib.hid (HB11.out.trans (hbf.mono HB11.out.size))
  clear hbf HB11 HP11 HZ11 HY11 hq a0 a1 a2 b0 b1 b2
  go_wp2
  go_ret
  exact ⟨rfl, HBF.out⟩
end Go.Proofs.Ytcgdpclhlepofaa
