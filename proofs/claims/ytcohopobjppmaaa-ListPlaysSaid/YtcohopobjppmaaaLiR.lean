/- ListNil: without a tx each call answers that there is none. -/
import Derived.Test.YtcohopobjppmaaaLiQ
import Derived.Test.YtcohopobjppmaaaOpen
namespace Go.Proofs.Ytcohopobjppmaaa
open Go.RowKit
set_option maxHeartbeats 4000000
set_option linter.unusedVariables false
set_option linter.unusedSimpArgs false

def ReplyP (B : Nat) (w : World) (er : Int) (e : Ending) (w' : World) : Prop := e = .returned (.agg #[.int .u64 0, .bool false, .slice none 0 0, .int .i64 er]) ∧ Below B w w'
theorem donil_in {a l k on key : Int} {w : World} (h1 : 1 ≤ k) (h9 : k ≤ 9) : Calls Try.prog 7 #[.nilIface, .int .u64 a, .int .u64 l, .agg #[.int .i64 k, .int .i64 on, .int .u64 key]] w (ReplyP w.heap.size w 1) := by
  rcases (show k = 1 ∨ k = 2 ∨ k = 3 ∨ k = 4 ∨ k = 5 ∨ k = 6 ∨ k = 7 ∨ k = 8 ∨ k = 9 by omega) with rfl | rfl | rfl | rfl | rfl | rfl | rfl | rfl | rfl
  · exact donil1_b
  · exact donil2_b
  · exact donil3_b
  · exact donil4_b
  · exact donil5_b
  · exact donil6_b
  · exact donil7_b
  · exact donil8_b
  · exact donil9_b
set_option maxRecDepth 100000 in
theorem same_b {x e : Int} {h : Bool} {v1 v2 : Value} {l : List Int} {w : World} (L1 : Lies w v1 l) (L2 : Lies w v2 l) (hl : (l.length : Int) ≤ 9223372036854775807) :
    Calls Try.prog 14 #[.agg #[.int .u64 x, .bool h, v1, .int .i64 e], .agg #[.int .u64 x, .bool h, v2, .int .i64 e]] w (TrueP w.heap.size w) := by
  have K1 := Lib.hid ((L1.alloc (.cells #[.int .u64 x, .bool h, v1, .int .i64 e] 29)).alloc (.cells #[.int .u64 x, .bool h, v2, .int .i64 e] 29))
  have K2 := Lib.hid ((L2.alloc (.cells #[.int .u64 x, .bool h, v1, .int .i64 e] 29)).alloc (.cells #[.int .u64 x, .bool h, v2, .int .i64 e] 29))
  have hB := Lib.hid (((Below.refl w.heap.size w).alloc (Nat.le_refl _) (.cells #[.int .u64 x, .bool h, v1, .int .i64 e] 29)).alloc (by simp) (.cells #[.int .u64 x, .bool h, v2, .int .i64 e] 29))
  obtain ⟨A1, c1, rfl, -⟩ := L1
  obtain ⟨A2, c2, rfl, -⟩ := L2
  have hT : ∀ W : World, Lies W (.slice A1 l.length c1) l → Lies W (.slice A2 l.length c2) l → Calls Try.prog 11 #[.slice A1 l.length c1, .slice A2 l.length c2] W fun e w' => (∃ n, w' = W.drewN n) ∧ e = .returned (.bool true) := fun W h1 h2 => (words_b h1 h2 hl).mono fun e w' ⟨q1, q2⟩ => ⟨q1, by rw [q2, decide_eq_true rfl]⟩
  have hT := Lib.hid hT
  generalize l.length = n at *
  go_enter Try.func14, Try.ntmps14
  go_wp2_with fail
  refine (hT.out _ K1.out K2.out).mono ?_
  rintro _ w2 ⟨⟨nd, rfl⟩, rfl⟩
  go_wp2_with fail
  go_ret
  exact ⟨rfl, below_drewNs hB.out _⟩
set_option maxRecDepth 100000 in
theorem listNil_walk (k on key : Int) (wk : (Lit.int .i64 k).wf = true) (won : (Lit.int .i64 on).wf = true) (wkey : (Lit.int .u64 key).wf = true) (a : Int) (wa : (Lit.int .u64 a).wf = true) (l : Int) (wl : (Lit.int .u64 l).wf = true) (W : World) :
    Calls Try.prog 4 #[.agg #[.int .i64 k, .int .i64 on, .int .u64 key], .int .u64 a, .int .u64 l] W fun e w' => e = .returned (.bool true) ∧ Below W.heap.size W w' := by
  have hS := Blk.new W 25 #[.int .i64 k, .int .i64 on, .int .u64 key]
  by_cases hk : 1 ≤ k ∧ k ≤ 9
  · have D := Lib.hid (fun w => donil_in (a := a) (l := l) (on := on) (key := key) (w := w) hk.1 hk.2)
    have z1 : decide (k < 1) = false := decide_eq_false (by omega)
    have z2 : decide (9 < k) = false := decide_eq_false (by omega)
    clear hk
    go_enter Try.func4, Try.ntmps4
    go_wp2_with fail
    refine (new_nil (l := 0) (key := 0)).mono ?_
    rintro _ w1 ⟨rfl, rfl⟩
    go_wp2_with fail
    refine (D.out _).mono ?_
    rintro _ w2 ⟨rfl, h2⟩
    have hS2 := (Blk.below hS h2 (by simp)).alloc (.cells #[.int .u64 0, .bool false, .slice none 0 0, .int .i64 1] 29)
    have s0 := hS2.cell 0
    have hR := Blk.new w2 29 #[.int .u64 0, .bool false, .slice none 0 0, .int .i64 1]
    have r0 := hR.cell 0
    have r1 := hR.cell 1
    have r2 := hR.cell 2
    have r3 := hR.cell 3
    simp only [List.getElem?_toArray, List.getElem?_cons_zero, List.getElem?_cons_succ] at s0 r0 r1 r2 r3
    have hb : Hid (Below W.heap.size W (w2.alloc (.cells #[.int .u64 0, .bool false, .slice none 0 0, .int .i64 1] 29))) := Lib.hid ((((Below.refl _ _).alloc (Nat.le_refl _) _).trans (h2.mono (by simp))).alloc (by have := h2.size; simp at this; omega) _)
    have hN := Lib.hid (Wl.nil (w2.alloc (.cells #[.int .u64 0, .bool false, .slice none 0 0, .int .i64 1] 29)))
    clear hS hS2 hR h2 D
    go_wp2_with fail
    refine drop_nil.mono ?_
    rintro _ w3 ⟨rfl, rfl⟩
    go_wp2_with fail
    refine (same_b hN.out.lies hN.out.lies (by simp)).mono ?_
    rintro _ w4 ⟨rfl, h4⟩
    have hb := Lib.hid (hb.out.trans (h4.mono (by have := hb.out.size; omega)))
    clear h4 r0 r1 r2 r3 hN
    go_wp2_with fail
    refine (known_b _).mono ?_
    rintro _ w5 ⟨rfl, h5⟩
    have hb := Lib.hid (hb.out.trans (h5.mono (by have := hb.out.size; omega)))
    clear h5
    go_wp2_with fail
    go_ret
    exact ⟨rfl, hb.out⟩
  · have D := Lib.hid (fun w => donil0_b (a := a) (l := l) (on := on) (key := key) (w := w) (kd := k) (by omega))
    have z1 : decide (k < 1) = true ∨ decide (k < 1) = false ∧ decide (9 < k) = true := by
      by_cases h : k < 1
      · exact .inl (decide_eq_true h)
      · exact .inr ⟨decide_eq_false h, decide_eq_true (by omega)⟩
    clear hk
    go_enter Try.func4, Try.ntmps4
    go_wp2_with fail
    refine (new_nil (l := 0) (key := 0)).mono ?_
    rintro _ w1 ⟨rfl, rfl⟩
    go_wp2_with fail
    refine (D.out _).mono ?_
    rintro _ w2 ⟨rfl, h2⟩
    rcases z1 with z1 | ⟨z1, z2⟩
    · skip
      have hS2 := (Blk.below hS h2 (by simp)).alloc (.cells #[.int .u64 0, .bool false, .slice none 0 0, .int .i64 0] 29)
      have s0 := hS2.cell 0
      have hR := Blk.new w2 29 #[.int .u64 0, .bool false, .slice none 0 0, .int .i64 0]
      have r0 := hR.cell 0
      have r1 := hR.cell 1
      have r2 := hR.cell 2
      have r3 := hR.cell 3
      simp only [List.getElem?_toArray, List.getElem?_cons_zero, List.getElem?_cons_succ] at s0 r0 r1 r2 r3
      have hb : Hid (Below W.heap.size W (w2.alloc (.cells #[.int .u64 0, .bool false, .slice none 0 0, .int .i64 0] 29))) := Lib.hid ((((Below.refl _ _).alloc (Nat.le_refl _) _).trans (h2.mono (by simp))).alloc (by have := h2.size; simp at this; omega) _)
      have hN := Lib.hid (Wl.nil (w2.alloc (.cells #[.int .u64 0, .bool false, .slice none 0 0, .int .i64 0] 29)))
      clear hS hS2 hR h2 D
      go_wp2_with fail
      refine drop_nil.mono ?_
      rintro _ w3 ⟨rfl, rfl⟩
      go_wp2_with fail
      refine (known_b _).mono ?_
      rintro _ w5 ⟨rfl, h5⟩
      have hb := Lib.hid (hb.out.trans (h5.mono (by have := hb.out.size; omega)))
      clear h5
      go_wp2_with fail
      go_ret
      exact ⟨rfl, hb.out⟩
    · skip
      have hS2 := (Blk.below hS h2 (by simp)).alloc (.cells #[.int .u64 0, .bool false, .slice none 0 0, .int .i64 0] 29)
      have s0 := hS2.cell 0
      have hR := Blk.new w2 29 #[.int .u64 0, .bool false, .slice none 0 0, .int .i64 0]
      have r0 := hR.cell 0
      have r1 := hR.cell 1
      have r2 := hR.cell 2
      have r3 := hR.cell 3
      simp only [List.getElem?_toArray, List.getElem?_cons_zero, List.getElem?_cons_succ] at s0 r0 r1 r2 r3
      have hb : Hid (Below W.heap.size W (w2.alloc (.cells #[.int .u64 0, .bool false, .slice none 0 0, .int .i64 0] 29))) := Lib.hid ((((Below.refl _ _).alloc (Nat.le_refl _) _).trans (h2.mono (by simp))).alloc (by have := h2.size; simp at this; omega) _)
      have hN := Lib.hid (Wl.nil (w2.alloc (.cells #[.int .u64 0, .bool false, .slice none 0 0, .int .i64 0] 29)))
      clear hS hS2 hR h2 D
      go_wp2_with fail
      refine drop_nil.mono ?_
      rintro _ w3 ⟨rfl, rfl⟩
      go_wp2_with fail
      refine (known_b _).mono ?_
      rintro _ w5 ⟨rfl, h5⟩
      have hb := Lib.hid (hb.out.trans (h5.mono (by have := hb.out.size; omega)))
      clear h5
      go_wp2_with fail
      go_ret
      exact ⟨rfl, hb.out⟩
end Go.Proofs.Ytcohopobjppmaaa
