/- One call of both, the words' own stores: a word is laid, the gets and puts are counted out. -/
import Derived.Test.YthabfblcmbjlnaaStep
namespace Go.Proofs.Ythabfblcmbjlnaa
open Go.RowKit
set_option maxHeartbeats 4000000
set_option linter.unusedVariables false

theorem Wld.code {w : World} {b g cap : Nat} {s : St} (h : Wld w b g cap s) (n : Int) : Wld (w.setCell ⟨b, 2, none⟩ (.int .i64 n)) b g cap { s with code := n } := by
  have hne := h.ne
  obtain ⟨k1, cur, k2, k3⟩ := h
  exact ⟨k1.set_ 2 _, cur, k2.far (fun e => hne e.symm) _, k3⟩

theorem Blk.drewNs {w : World} {k : Nat} {ty : TypeId} {cs : Array Value} (h : Blk w k ty cs) (n : Nat) : Blk (w.drewN n) k ty cs := h
theorem below_drewNs {B : Nat} {a w : World} (h : Below B a w) (n : Nat) : Below B a (w.drewN n) := ⟨h.os, h.tape, h.output, h.size, h.block⟩
theorem Wld.far {w : World} {b g cap : Nat} {s : St} (h : Wld w b g cap s) {p : Addr} (h1 : b ≠ p.block) (h2 : g ≠ p.block) (u : Value) : Wld (w.setCell p u) b g cap s := by
  obtain ⟨k1, cur, k2, k3⟩ := h
  exact ⟨k1.far h1 _, cur, k2.far h2 _, k3⟩

set_option maxRecDepth 20000 in
theorem step_7 {B t b g cap b2 g2 cap2 : Nat} {s : St} {x y z : Int} {w : World} (hp : Pair w B t b g cap b2 g2 cap2 s) (hx : 0 ≤ x) (hx' : x ≤ 18446744073709551615) (hy : 0 ≤ y) (hy' : y ≤ 18446744073709551615) (hz : 0 ≤ z) (hz' : z ≤ 18446744073709551615) (hB : B ≤ w.heap.size) :
    Calls Try.prog 5 #[.pointer (some ⟨t, 0, none⟩), .pointer (some ⟨b2, 0, none⟩), .agg #[.int .i64 7, .int .u64 x, .int .u64 y, .int .u64 z]] w fun e w' =>
      ∃ s', e = .returned (.bool true) ∧ Pair w' B t b g cap b2 g2 cap2 s' ∧ Below B w w' := by
  obtain ⟨hw, hw2, hf, n1, n2, n3, n4, n5, n6, lt, lb, lg, lb2, lg2⟩ := hp
  have b1 := hw.1.lt
  have b3 := hw.2.lt
  have b4 := hw2.lt
  have hne := hw.ne
  have k1 : w.heap.size ≠ b := by omega
  have k3 : w.heap.size ≠ b2 := by omega
  have c0 := hw.1.cell 0
  have c1 := hw.2.1.cell 1
  have c2 := hw.2.1.cell 2
  have z1 := hw.2.1.frozen 1
  have z2 := hw.2.1.frozen 2
  have c3 := hw2.1.cell 1
  have c4 := hw2.1.cell 2
  have z3 := hw2.1.frozen 1
  have z4 := hw2.1.frozen 2
  simp only [List.getElem?_toArray, List.getElem?_cons_zero, List.getElem?_cons_succ] at c0 c1 c2 c3 c4
  go_enter Try.func5, Try.ntmps5
  go_wp2
  go_region
  go_wp2
  go_region
  go_wp2
  go_ret
  refine ⟨{ s with left := y % 20, code := 1 + z % 300 }, rfl, ⟨⟨?_, ?_⟩, ?_, ?_, n1, n2, n3, n4, n5, n6, lt, lb, lg, lb2, lg2⟩, ?_⟩
  · exact ((((hw.1.far n5 _).far n5 _).far hne.1 _).far hne.1 _).alloc _
  · exact ((((hw.2.far n1 n3 _).far n1 n3 _).left (y % 20)).code (1 + z % 300)).alloc _
  · exact ((((hw2.left (y % 20)).code (1 + z % 300)).far (Ne.symm n1) (Ne.symm n2) _).far (Ne.symm n1) (Ne.symm n2) _).alloc _
  · exact ⟨hf.words, hf.len, by constructor <;> simp only <;> omega⟩
  · exact ((((((((Below.refl B w).setCell lb2 _).setCell lb2 _).setCell lb _).setCell lb _).alloc (by simpa using hB) _).drew).drew)

set_option maxRecDepth 20000 in
theorem step_6 {B t b g cap b2 g2 cap2 : Nat} {s : St} {x y z : Int} {w : World} (hp : Pair w B t b g cap b2 g2 cap2 s) (hx : 0 ≤ x) (hx' : x ≤ 18446744073709551615) (hy : 0 ≤ y) (hy' : y ≤ 18446744073709551615) (hz : 0 ≤ z) (hz' : z ≤ 18446744073709551615) (hB : B ≤ w.heap.size) :
    Calls Try.prog 5 #[.pointer (some ⟨t, 0, none⟩), .pointer (some ⟨b2, 0, none⟩), .agg #[.int .i64 6, .int .u64 x, .int .u64 y, .int .u64 z]] w fun e w' =>
      ∃ s', e = .returned (.bool true) ∧ Pair w' B t b g cap b2 g2 cap2 s' ∧ Below B w w' := by
  obtain ⟨hw, hw2, hf, n1, n2, n3, n4, n5, n6, lt, lb, lg, lb2, lg2⟩ := hp
  have b1 := hw.1.lt
  have b3 := hw.2.lt
  have b4 := hw2.lt
  have hne := hw.ne
  have hne1 := hw.2.ne
  have hne2 := hw2.ne
  have k1 : w.heap.size ≠ b := by omega
  have k3 : w.heap.size ≠ b2 := by omega
  have k4 : w.heap.size ≠ g2 := by omega
  have k2 : w.heap.size ≠ g := by omega
  have c0 := hw.1.cell 0
  have c1 := hw.2.1.cell 0
  have c3 := hw2.1.cell 0
  simp only [List.getElem?_toArray, List.getElem?_cons_zero] at c0 c1 c3
  have hl := hf.len
  by_cases hlt : y < s.W.length
  · obtain ⟨d1, z1⟩ := hw.2.words y.toNat (by omega)
    obtain ⟨d2, z2⟩ := hw2.words y.toNat (by omega)
    generalize hv : s.W.getD y.toNat 0 = v at d1 d2
    have u1 := Lib.hid (hw2.word y.toNat z (by omega))
    have u2 := Lib.hid (hw.2.word y.toNat z (by omega))
    go_enter Try.func5, Try.ntmps5
    go_wp2
    go_quiet (fail)
    go_wp2
    go_region
    go_wp2
    go_region
    go_wp2
    go_ret
    refine ⟨{ s with W := s.W.set y.toNat z }, rfl, ⟨⟨?_, ?_⟩, ?_, ?_, n1, n2, n3, n4, n5, n6, lt, lb, lg, lb2, lg2⟩, ?_⟩
    · exact ((((hw.1.alloc _).drewNs (nq + 1)).far n6 _).far hne.2 _)
    · exact ((((hw.2.alloc _).drewN (nq + 1)).far n2 n4 _).word y.toNat z (by omega))
    · exact ((((hw2.alloc _).drewN (nq + 1)).word y.toNat z (by omega)).far (Ne.symm n3) (Ne.symm n4) _)
    · refine ⟨fun v hv => ?_, by simpa using hl, hf.code⟩
      rcases List.mem_or_eq_of_mem_set hv with h1 | h1
      · exact hf.words v h1
      · rw [h1]; exact ⟨hz, hz'⟩
    · exact (((below_drewNs ((Below.refl B w).alloc hB _) (nq + 1)).setCell lg2 _).setCell lg _).drew
  · go_enter Try.func5, Try.ntmps5
    go_wp2
    go_quiet (fail)
    go_wp2
    go_ret
    exact ⟨s, rfl, ⟨⟨(hw.1.alloc _).drewNs nq, (hw.2.alloc _).drewN nq⟩, (hw2.alloc _).drewN nq, hf, n1, n2, n3, n4, n5, n6, lt, lb, lg, lb2, lg2⟩, below_drewNs ((Below.refl B w).alloc hB _) nq⟩

theorem step_b {B t b g cap b2 g2 cap2 : Nat} {s : St} {K x y z : Int} {w : World} (hp : Pair w B t b g cap b2 g2 cap2 s) (hx : 0 ≤ x) (hx' : x ≤ 18446744073709551615) (hy : 0 ≤ y) (hy' : y ≤ 18446744073709551615) (hz : 0 ≤ z) (hz' : z ≤ 18446744073709551615) (hB : B ≤ w.heap.size) :
    Calls Try.prog 5 #[.pointer (some ⟨t, 0, none⟩), .pointer (some ⟨b2, 0, none⟩), .agg #[.int .i64 K, .int .u64 x, .int .u64 y, .int .u64 z]] w fun e w' =>
      ∃ s', e = .returned (.bool true) ∧ Pair w' B t b g cap b2 g2 cap2 s' ∧ Below B w w' := by
  by_cases h6 : K = 6
  · subst h6; exact step_6 hp hx hx' hy hy' hz hz' hB
  · by_cases h7 : K = 7
    · subst h7; exact step_7 hp hx hx' hy hy' hz hz' hB
    · exact step_a hp hx hx' hy hy' hz hz' ⟨h6, h7⟩ hB
end Go.Proofs.Ythabfblcmbjlnaa
