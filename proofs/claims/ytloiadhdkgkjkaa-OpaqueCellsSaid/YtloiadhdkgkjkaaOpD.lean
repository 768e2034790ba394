/- opaque.see: what it answers, plain; its refusals by contract. -/
import Derived.Test.YtloiadhdkgkjkaaOpC
import Derived.Outline
namespace Go.Proofs.Ytloiadhdkgkjkaa
open Go.RowKit
set_option maxHeartbeats 4000000
set_option linter.unusedVariables false
set_option linter.unusedSimpArgs false
/-- What is wrong with cells and a history. -/
def seeOdd (n : Nat) (l : List Ev) : Int × Int :=
  if n = 0 ∨ 65536 < n then (-1, 2) else if (odd l).2 ≠ 0 then odd l else if 0 ≤ idxE plainE l then (idxE plainE l, 260) else if 0 ≤ idxE (farE n) l then (idxE (farE n) l, 4) else (-1, 0)
set_option maxRecDepth 100000 in
theorem see_len {w : World} {Af A : Option Addr} {n cf m cp : Nat} (hn : n = 0 ∨ 65536 < n) (hn2 : n ≤ 9223372036854775807) :
    Calls Try.prog 26 #[.slice Af n cf, .slice A m cp] w fun x w' => Below w.heap.size w w' ∧ x = .returned (.tuple #[.pointer none, .agg #[.int .i64 (-1), .int .i64 2]]) := by
  have hO := Lib.hid (odd_b (-1) 2)
  have hn' : (n : Int) ≤ 9223372036854775807 := by omega
  obtain ⟨w3, hw3⟩ : ∃ w3, w3 = ((w.alloc (.cells #[.slice Af n cf] 22)).alloc (.cells #[.slice A m cp] 23)).alloc (.cells #[.int .i64 0, .int .i64 0] 28) := ⟨_, rfl⟩
  have hb3 : Hid (Below w.heap.size w w3) := Lib.hid (by rw [hw3]; exact ((((Below.refl _ _).alloc (Nat.le_refl _) _).alloc (by simp) _).alloc (by simp; omega) _))
  have hR3 : Hid (Blk w3 (w.heap.size + 1 + 1) 28 #[.int .i64 0, .int .i64 0]) := Lib.hid (by
    have := Blk.new ((w.alloc (.cells #[.slice Af n cf] 22)).alloc (.cells #[.slice A m cp] 23)) 28 #[.int .i64 0, .int .i64 0]
    rw [World.size_alloc, World.size_alloc] at this
    rw [hw3]; exact this)
  have hF3 : w3.cell? ⟨w.heap.size, 0, none⟩ = some (.slice Af n cf) := by rw [hw3]; exact (((Blk.new w 22 #[.slice Af n cf]).alloc _).alloc _).cell 0
  replace hw3 := Lib.hid hw3
  have hle : w.heap.size ≤ w.heap.size + 1 + 1 := by omega
  rcases hn with rfl | hn
  · go_enter Try.func26, Try.ntmps26
    go_wp2_with fail
    rw [← hw3.out]
    refine (hO.out _).mono ?_
    rintro _ w4 ⟨rfl, hb4⟩
    have R4 := hR3.out.below hb4 hR3.out.lt
    have c0 := R4.cell 0
    have c1 := R4.cell 1
    have f0 := R4.frozen 0
    have f1 := R4.frozen 1
    simp only [List.getElem?_toArray, List.getElem?_cons_zero, List.getElem?_cons_succ] at c0 c1
    have hb5 := Lib.hid (hb3.out.trans (hb4.mono hb3.out.size))
    clear hb4 R4 hb3 hR3 hO
    go_wp2
    exact bodyPost_ret (v := .tuple #[.pointer none, .agg #[.int .i64 (-1), .int .i64 2]]) (by simp [results, Try.results26, go_sem, c0, c1, f0, f1]) rfl ⟨(hb5.out.setCell hle _).setCell hle _, rfl⟩
  · have hz : ((n : Int) == 0) = false := by simp; omega
    have hg : (65536 : Int) < (n : Int) := by omega
    go_enter Try.func26, Try.ntmps26
    go_wp2_with fail
    rw [← hw3.out]
    refine (hO.out _).mono ?_
    rintro _ w4 ⟨rfl, hb4⟩
    have R4 := hR3.out.below hb4 hR3.out.lt
    have c0 := R4.cell 0
    have c1 := R4.cell 1
    have f0 := R4.frozen 0
    have f1 := R4.frozen 1
    simp only [List.getElem?_toArray, List.getElem?_cons_zero, List.getElem?_cons_succ] at c0 c1
    have hb5 := Lib.hid (hb3.out.trans (hb4.mono hb3.out.size))
    clear hb4 R4 hb3 hR3 hO
    go_wp2
    exact bodyPost_ret (v := .tuple #[.pointer none, .agg #[.int .i64 (-1), .int .i64 2]]) (by simp [results, Try.results26, go_sem, c0, c1, f0, f1]) rfl ⟨(hb5.out.setCell hle _).setCell hle _, rfl⟩
end Go.Proofs.Ytloiadhdkgkjkaa
