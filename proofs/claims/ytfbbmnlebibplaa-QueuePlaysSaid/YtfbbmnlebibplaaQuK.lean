/- Laid words, and the document's small queue, by contract. -/
import Derived.Test.YtfbbmnlebibplaaQuD
import Derived.Test.YtfbbmnlebibplaaQuK0
import Derived.Test.YtfbbmnlebibplaaRefW
namespace Go.Proofs.Ytfbbmnlebibplaa
open Go.RowKit
set_option maxHeartbeats 4000000
set_option linter.unusedVariables false
set_option linter.unusedSimpArgs false

theorem num_b (x : Int) (w : World) : Calls Try.prog 14 #[.int .i64 x] w fun e w' => e = .returned (.int .i64 x) ∧ w = w' := by
  go_enter Try.func14, Try.ntmps14
  go_wp2
  go_ret
  exact ⟨rfl, rfl⟩

theorem Wld.make {w : World} {v : Value} {l : List Int} (h : Wl w v l) (lf cd ca : Int) :
    Wld (w.alloc (.cells #[v, .int .i64 lf, .int .i64 cd, .int .i64 ca] 40)) w.heap.size (fun k => k = w.heap.size ∨ Go.Proofs.Ytfbbmnlebibplaa.own v k) ⟨l, lf, cd, ca⟩ :=
  ⟨v, Blk.new w _ _, h.alloc _, fun k => Iff.rfl⟩
theorem Txw.make {w : World} {b : Nat} {G : Nat → Prop} {s : St} (h : Wld w b G s) : Txw (w.alloc (.cells #[.pointer (some ⟨b, 0, none⟩)] 28)) w.heap.size (fun k => k = w.heap.size ∨ G k) s :=
  ⟨b, G, Blk.new w _ _, h.alloc _, fun k => Iff.rfl⟩
theorem Txw.lies {w : World} {t : Nat} {F : Nat → Prop} {s : St} (h : Txw w t F s) : ∃ b v, w.cell? ⟨t, 0, none⟩ = some (.pointer (some ⟨b, 0, none⟩)) ∧ w.cell? ⟨b, 0, none⟩ = some v ∧ Lies w v s.W := by
  obtain ⟨b, G, h1, h2, _⟩ := h
  obtain ⟨A, cap, c0, _, hl, _⟩ := h2.words
  exact ⟨b, _, by rw [h1.cell]; rfl, c0, hl⟩

/-- The document's world is laid. -/
def LaidP (n : Nat) (B : Nat) (w : World) (e : Ending) (w' : World) : Prop := ∃ b F', e = .returned (.pointer (some ⟨b, 0, none⟩)) ∧ Wld w' b F' (laidSt n) ∧ (∀ k, F' k → B ≤ k) ∧ Fits (laidSt n) ∧ Bud (laidSt n) 4611686018427387000 ∧ Below B w w'
theorem laid_b (n : Nat) (hn : 18 ≤ n) (hn' : n ≤ 1000000) (w : World) : Calls Try.prog 5 #[.int .i64 (n : Int)] w (LaidP n w.heap.size w) := by
  have hni : (18 : Int) ≤ (n : Int) := by omega
  have hni' : (n : Int) ≤ 1000000 := by omega
  go_enter Try.func5, Try.ntmps5
  go_wp2_with (refine wpList_zeros w rfl _ _ rfl .i64 .i64 (n : Int) (n : Int) n rfl rfl rfl rfl (by omega) ?_; intro w1 hz1 hb1)
  have ht1 := Wld.make (lf := -1) (cd := 0) (ca := 0) hz1
  have hs1 := hb1.size
  have hb1' := hb1.alloc hs1 (.cells #[.slice (some ⟨w.heap.size, 0, none⟩) n n, .int .i64 (-1), .int .i64 0, .int .i64 0] 40)
  have hF : ∀ k, k = w1.heap.size ∨ own (.slice (some ⟨w.heap.size, 0, none⟩) n n) k → w.heap.size ≤ k := fun k hk => hk.elim (fun h => by omega) fun h => by
    obtain rfl : w.heap.size = k := by simpa [own, Value.ownBlock] using h
    exact Nat.le_refl _
  have hfit : Fits ⟨List.replicate n 0, -1, 0, 0⟩ := ⟨fun x hx => by rw [List.eq_of_mem_replicate hx]; omega, by simp only [List.length_replicate]; omega, by simp⟩
  have hbud : Bud ⟨List.replicate n 0, -1, 0, 0⟩ (4611686018427387000 + 18) := by unfold Bud; simp
  refine (wlay_b (n := 4611686018427387000) ht1 hfit hbud (by omega) (by omega) (by omega) (by omega) (by omega) (by omega) (Fr.refl _ _)).mono ?_
  rintro e w2 ⟨er, s2, q, rfl, f2, b2, F2, hw2, hm2⟩
  have hs : ({ s2 with calls := 0 } : St) = laidSt n := by unfold laidSt; rw [q.out]
  obtain ⟨c1, c2, c3, z0, z1, z2, z3⟩ := hw2.num
  have hw3 := hw2.ncalls 0
  have hF2 := hm2.ge (B := w.heap.size) hF hb1'.size
  have hb3 := (hb1'.trans (hm2.below hF hb1'.size)).setCell (p := ⟨w1.heap.size, 3, none⟩) hs1 (.int .i64 0)
  rw [hs] at hw3
  have hW3 := Lib.hid hw3
  have hB3 := Lib.hid hb3
  have hF3 : Fits (laidSt n) := by rw [← hs]; exact ⟨f2.words, f2.len, f2.code⟩
  have hB4 : Bud (laidSt n) 4611686018427387000 := by rw [← hs]; unfold Bud at *; simp only; omega
  clear hw2 hw3 hb3 ht1 hz1 hb1 hb1' hm2 q hs f2 b2
  go_wp2
  go_ret
  exact ⟨_, F2, rfl, hW3.out, hF2, hF3, hB4, hB3.out⟩

def TrueP (B : Nat) (w : World) (e : Ending) (w' : World) : Prop := e = .returned (.bool true) ∧ Below B w w'
theorem works_b (w : World) : Calls Try.prog 12 #[] w (TrueP w.heap.size w) := by
  go_enter Try.func12, Try.ntmps12
  go_wp2_with fail
  refine (laid_b 60 (by omega) (by omega) w).mono ?_
  rintro e w1 ⟨b, G, rfl, hw1, hG, f1, b1, hb1⟩
  rw [kq1_e] at hw1 f1 b1
  have ht1 := Txw.make hw1
  have hb2 := hb1.alloc hb1.size (.cells #[.pointer (some ⟨b, 0, none⟩)] 28)
  have hs1 := hb1.size
  have hF : ∀ k, k = w1.heap.size ∨ G k → w.heap.size ≤ k := fun k hk => hk.elim (fun h => by omega) (hG k)
  have hm1 := Fr.refl (fun k => k = w1.heap.size ∨ G k) (w1.alloc (.cells #[.pointer (some ⟨b, 0, none⟩)] 28))
  clear hw1 hb1
  go_wp2_with fail
  generalize w1.heap.size = t at *
  generalize w1.alloc (.cells #[.pointer (some ⟨b, 0, none⟩)] 28) = w2 at *
  refine (qunew_b (n := 4000000) ht1 f1 (b1.mono (by omega)) (by omega) hm1).mono ?_
  rintro e w3 ⟨x, er, s3, q, dx, dx', rfl, f3, b3, F3, hw3, hm3⟩
  obtain ⟨rfl, rfl, rfl⟩ : 18 = x ∧ 0 = er ∧ kq2 = s3 := by have := kq2_e.symm.trans q.out; simpa using this
  clear q ht1 hm1
  go_wp2_with fail
  refine (quput_b (n := 3900000) hw3 f3 (b3.mono (by omega)) (by omega) (by omega) (by omega) (by omega) (by omega) hm3).mono ?_
  rintro e w4 ⟨er, s4, q, rfl, f4, b4, F4, hw4, hm4⟩
  obtain ⟨rfl, rfl⟩ : 0 = er ∧ kq3 = s4 := by have := kq3_e.symm.trans q.out; simpa using this
  clear q hw3 hm3
  go_wp2_with fail
  refine (quput_b (n := 3800000) hw4 f4 (b4.mono (by omega)) (by omega) (by omega) (by omega) (by omega) (by omega) hm4).mono ?_
  rintro e w5 ⟨er, s5, q, rfl, f5, b5, F5, hw5, hm5⟩
  obtain ⟨rfl, rfl⟩ : 0 = er ∧ kq4 = s5 := by have := kq4_e.symm.trans q.out; simpa using this
  clear q hw4 hm4
  go_wp2_with fail
  refine (qutake_b (n := 3700000) hw5 f5 (b5.mono (by omega)) (by omega) (by omega) (by omega) hm5).mono ?_
  rintro e w6 ⟨x, bo, er, s6, q, dx, dx', rfl, f6, b6, F6, hw6, hm6⟩
  obtain ⟨rfl, rfl, rfl, rfl⟩ : 5 = x ∧ true = bo ∧ 0 = er ∧ kq5 = s6 := by have := kq5_e.symm.trans q.out; simpa using this
  clear q hw5 hm5
  go_wp2_with fail
  refine (quput_b (n := 3600000) hw6 f6 (b6.mono (by omega)) (by omega) (by omega) (by omega) (by omega) (by omega) hm6).mono ?_
  rintro e w7 ⟨er, s7, q, rfl, f7, b7, F7, hw7, hm7⟩
  obtain ⟨rfl, rfl⟩ : 0 = er ∧ kq6 = s7 := by have := kq6_e.symm.trans q.out; simpa using this
  clear q hw6 hm6
  go_wp2_with fail
  refine (quwords_b (n := 3000000) hw7 f7 (b7.mono (by omega)) (by omega) (by omega) hm7).mono ?_
  rintro e w8 ⟨v, l, er, s8, q, rfl, f8, b8, hv, ho, F8, hw8, hm8, hn8⟩
  obtain ⟨rfl, rfl, rfl⟩ : [6, 7] = l ∧ 0 = er ∧ kq7 = s8 := by have := kq7_e.symm.trans q.out; simpa using this
  clear q hw7 hm7
  go_wp2_with fail
  refine (qulen_b (n := 2900000) hw8 f8 (b8.mono (by omega)) (by omega) (by omega) (Fr.refl _ _)).mono ?_
  rintro e w9 ⟨x, er, s9, q, dx, dx', rfl, f9, b9, F9, hw9, hm9⟩
  obtain ⟨rfl, rfl, rfl⟩ : 2 = x ∧ 0 = er ∧ kq8 = s9 := by have := kq8_e.symm.trans q.out; simpa using this
  have hv9 := Lib.hid (hv.fr hm9 hn8)
  have hbel := Lib.hid (hb2.trans ((hm8.trans hm9).below hF hb2.size))
  clear q hw8 hm8 hv ho hn8 hw9 hm9 hF hG
  go_wp2_with (go_at_call 14; refine (num_b _ _).mono ?_; rintro e _ ⟨rfl, rfl⟩)
  refine (words_b (l1 := [6, 7]) (l2 := [6, 7]) (hv9.out.lies.alloc _) (Lies.new w9 [6, 7] (by simp)) (by simp)).mono ?_
  rintro e _ ⟨⟨n1, rfl⟩, rfl⟩
  have hb3 := Lib.hid (below_drewNs (hbel.out.alloc hbel.out.size (.cells (u64s [6, 7]).toArray 33)) n1)
  go_wp2_with (go_at_call 14; refine (num_b _ _).mono ?_; rintro e _ ⟨rfl, rfl⟩)
  go_ret
  exact ⟨rfl, hb3.out⟩
end Go.Proofs.Ytfbbmnlebibplaa
