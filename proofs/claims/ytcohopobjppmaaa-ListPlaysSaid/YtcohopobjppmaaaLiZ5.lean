/- What is left in the room of two lists, by contract. -/
import Derived.Test.YtcohopobjppmaaaLiZ4
import Derived.Test.YtcohopobjppmaaaLiN
namespace Go.Proofs.Ytcohopobjppmaaa
open Go.RowKit
set_option maxHeartbeats 4000000
set_option linter.unusedVariables false
set_option linter.unusedSimpArgs false

set_option maxRecDepth 100000 in
theorem lleft_b {t : Nat} {F : Nat → Prop} {s : St} {n : Int} {bs fs : List Int} {u : Nat} {w : World} (hw : Txw w t F s) (hf : Fits s) (hR : Room s.W n bs fs) (hu : bs.length = u + 2) :
    Calls Try.prog 19 #[.pointer (some ⟨t, 0, none⟩), .int .i64 n, .int .i64 (u : Int)] w (TrueP w.heap.size w) := by
  obtain ⟨A, cap, c0, hcap, hL, -⟩ := hw.words
  have r1 := hR.len; have r2 := hR.n1; have r3 := hR.n2; have r4 := hR.nx; have r5 := hR.le
  obtain ⟨s1, g1, k1⟩ := left_run (s := ⟨s.W, 0, 0, -1, 0⟩) hR (show (-1 : Int) < 0 by decide)
  obtain ⟨s2, g2, k2⟩ := given2_run (s := s1) (by rw [k1.W]; exact hR) (by rw [k1.fail]; exact (show (-1 : Int) < 0 by decide))
  have hx0 : 0 ≤ n - ca s.W 0 := by omega
  have hx1 : n - ca s.W 0 ≤ 200 := by omega
  have hl1 : (fs.length : Int) ≤ 200 := by omega
  have hu1 : (u : Int) ≤ 200 := by omega
  have he : n - ca s.W 0 + 2 * (fs.length : Int) = n - 18 - 4 - 2 * (u : Int) := by rw [r4]; omega
  have f0 : Fits ⟨s.W, 0, 0, -1, 0⟩ := ⟨hf.words, hf.len, by simp, by simp⟩
  have b0 : Bud ⟨s.W, 0, 0, -1, 0⟩ (65538 + 4) := by unfold Bud; simp
  have hO := Lib.hid (over_b hL (by omega))
  have g1 := Lib.hid g1
  have g2 := Lib.hid g2
  clear hw hf hL r4 r5 hR hu k1 k2
  generalize n - ca s.W 0 = x at *
  generalize hfl : fs.length = fl at *
  have hfl := Lib.hid hfl
  have hz : (x + 2 * (fl : Int) == n - 18 - 4 - 2 * (u : Int)) = true := by simpa using he
  have hxw : IntKind.i64.wrap x = x := by rw [IntWalk.i64_in _ (by omega)]
  clear he
  go_enter Try.func19, Try.ntmps19
  go_wp2_with fail
  refine hO.out.mono ?_
  rintro _ w2 ⟨t2, F2, rfl, T2, m2⟩
  have m2 := Lib.hid m2
  go_wp2_with fail
  refine (left_b (n := 65538) T2 f0 b0 (by omega) (Fr.refl _ _)).mono ?_
  rintro _ w3 ⟨x3, e3, s3, q3, dx, dx', rfl, f3, b3, F3, T3, m3⟩
  obtain ⟨rfl, rfl, rfl⟩ : x3 = x ∧ e3 = 0 ∧ s3 = s1 := by simpa using q3.out.symm.trans g1.out
  have m3 := Lib.hid (m2.out.trans m3)
  have b3 : Bud s3 (1 + 65537) := b3
  clear T2 f0 b0 q3 m2
  go_wp2_with fail
  refine (given_b (n := 1) T3 f3 b3 (by omega) (by omega) (by omega) (Fr.refl _ _)).mono ?_
  rintro _ w4 ⟨v4, l4, e4, s4, q4, rfl, hL4⟩
  obtain ⟨rfl, rfl, rfl⟩ : l4 = fs ∧ e4 = 0 ∧ s4 = s2 := by simpa using q4.out.symm.trans g2.out
  obtain ⟨A4, c4, rfl, -⟩ := hL4.2.2.1.shape
  have hB : Hid (Below w.heap.size w w4) := Lib.hid (Fr.below (m3.out.trans hL4.2.2.2.choose_spec.2.1) (fun _ h => h.elim) (Nat.le_refl _))
  clear T3 f3 b3 q4 m3 hL4
  rw [hfl.out]
  go_wp2_with fail
  go_ret
  exact ⟨rfl, hB.out⟩
end Go.Proofs.Ytcohopobjppmaaa
