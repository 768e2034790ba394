/- The statements' own room: laid, a queue filled. -/
import Derived.Test.YtcgdpclhlepofaaPaR
import Derived.Test.YtcgdpclhlepofaaPaU
import Derived.Test.YtcgdpclhlepofaaRefW
import Derived.Test.YtcgdpclhlepofaaQuK0
namespace Go.Proofs.Ytcgdpclhlepofaa
open Go.RowKit
set_option maxHeartbeats 4000000
set_option linter.unusedVariables false
set_option linter.unusedSimpArgs false

theorem num_b (x : Int) (w : World) : Calls Try.prog 17 #[.int .i64 x] w fun e w' => e = .returned (.int .i64 x) ∧ w = w' := by
  go_enter Try.func17, Try.ntmps17
  go_wp2
  go_ret
  exact ⟨rfl, rfl⟩
theorem Wld.make {w : World} {v : Value} {l : List Int} (h : Wl w v l) (lf cd ca : Int) :
    Wld (w.alloc (.cells #[v, .int .i64 lf, .int .i64 cd, .int .i64 ca] 44)) w.heap.size (fun k => k = w.heap.size ∨ Go.Proofs.Ytcgdpclhlepofaa.own v k) ⟨l, lf, cd, ca⟩ := ⟨v, Blk.new _ _ _, h.alloc _, fun _ => Iff.rfl⟩
theorem Txw.make {w : World} {b : Nat} {G : Nat → Prop} {s : St} (h : Wld w b G s) : Txw (w.alloc (.cells #[.pointer (some ⟨b, 0, none⟩)] 47)) w.heap.size (fun k => k = w.heap.size ∨ G k) s :=
  ⟨b, G, Blk.new _ _ _, h.alloc _, fun _ => Iff.rfl⟩
/-- the calls are counted from 0 on -/
theorem Txw.ncalls {w : World} {t : Nat} {F : Nat → Prop} {s : St} (h : Txw w t F s) (n : Int) : ∃ b, w.cell? ⟨t, 0, none⟩ = some (.pointer (some ⟨b, 0, none⟩)) ∧ w.cell? ⟨b, 3, none⟩ = some (.int .i64 s.calls) ∧ w.frozen? ⟨b, 3, none⟩ = false ∧ F b ∧ Txw (w.setCell ⟨b, 3, none⟩ (.int .i64 n)) t F { s with calls := n } := by
  obtain ⟨b, G, h1, h2, h4⟩ := h
  obtain ⟨_, _, c3, _, _, _, z3⟩ := h2.num
  have hn := Txw.not_own h1 h2
  have hne : t ≠ b := fun e => hn (e ▸ h2.own)
  exact ⟨b, by rw [h1.cell]; rfl, c3, z3, (h4 b).2 (.inr h2.own), b, G, h1.far (p := ⟨b, 3, none⟩) hne _, h2.ncalls n, h4⟩
def LaidT (n : Nat) (B : Nat) (w : World) (e : Ending) (w' : World) : Prop := ∃ t F', e = .returned (.pointer (some ⟨t, 0, none⟩)) ∧ Txw w' t F' (laidSt n) ∧ (∀ k, F' k → B ≤ k) ∧ Fits (laidSt n) ∧ Bud (laidSt n) 4611686018427387000 ∧ Below B w w'
theorem laid_b (n : Nat) (hn : 18 ≤ n) (hn' : n ≤ 1000000) (w : World) : Calls Try.prog 27 #[.int .i64 (n : Int)] w (LaidT n w.heap.size w) := by
  have hni : (18 : Int) ≤ (n : Int) := by omega
  have hni' : (n : Int) ≤ 1000000 := by omega
  go_enter Try.func27, Try.ntmps27
  go_wp2_with (refine wpList_zeros w rfl _ _ rfl .i64 .i64 (n : Int) (n : Int) n rfl rfl rfl rfl (by omega) ?_; intro w1 hz1 hb1)
  have hs1 := hb1.size
  have hw1 := Wld.make (lf := -1) (cd := 0) (ca := 0) hz1
  have hT := Txw.make hw1
  have hE : (w1.alloc (.cells #[.slice (some ⟨w.heap.size, 0, none⟩) n n, .int .i64 (-1), .int .i64 0, .int .i64 0] 44)).heap.size = w1.heap.size + 1 := by simp
  rw [hE] at hT
  have hBt := Blk.new (w1.alloc (.cells #[.slice (some ⟨w.heap.size, 0, none⟩) n n, .int .i64 (-1), .int .i64 0, .int .i64 0] 44)) 47 #[.pointer (some ⟨w1.heap.size, 0, none⟩)]
  rw [hE] at hBt
  have hw2 := hw1.alloc (.cells #[.pointer (some ⟨w1.heap.size, 0, none⟩)] 47)
  have hb2 := (hb1.alloc hs1 (.cells #[.slice (some ⟨w.heap.size, 0, none⟩) n n, .int .i64 (-1), .int .i64 0, .int .i64 0] 44)).alloc (by simp; omega) (.cells #[.pointer (some ⟨w1.heap.size, 0, none⟩)] 47)
  have hF : ∀ k, (k = w1.heap.size + 1 ∨ k = w1.heap.size ∨ own (.slice (some ⟨w.heap.size, 0, none⟩) n n) k) → w.heap.size ≤ k := fun k hk => by
    rcases hk with h | h | h
    · omega
    · omega
    · obtain rfl : w.heap.size = k := by simpa [own, Value.ownBlock] using h
      exact Nat.le_refl _
  have hfit : Fits ⟨List.replicate n 0, -1, 0, 0⟩ := ⟨fun x hx => by rw [List.eq_of_mem_replicate hx]; omega, by simp only [List.length_replicate]; omega, by simp⟩
  have hbud : Bud ⟨List.replicate n 0, -1, 0, 0⟩ (4611686018427387000 + 18) := by unfold Bud; simp
  have c0 := hBt.cell 0
  simp only [List.getElem?_toArray, List.getElem?_cons_zero] at c0
  clear hz1 hb1 hw1 hE
  generalize (w1.alloc (.cells #[.slice (some ⟨w.heap.size, 0, none⟩) n n, .int .i64 (-1), .int .i64 0, .int .i64 0] 44)).alloc (.cells #[.pointer (some ⟨w1.heap.size, 0, none⟩)] 47) = w2 at *
  generalize w1.heap.size + 1 = t at *
  generalize w1.heap.size = b at *
  refine (wlay_b (n := 4611686018427387000) hw2 hfit hbud (by omega) (by omega) (by omega) (by omega) (by omega) (by omega) (Fr.refl _ _)).mono ?_
  rintro _ w3 ⟨er, s3, q, rfl, f3, b3, F3, hw3, hm3⟩
  have hs : ({ s3 with calls := 0 } : St) = laidSt n := by unfold laidSt; rw [q.out]
  obtain ⟨_, _, F4, hT4, hm4⟩ := Txw.step (n := 4611686018427387000) hBt hw2 (Fr.refl (fun k => k = t ∨ k = b ∨ own (.slice (some ⟨w.heap.size, 0, none⟩) n n) k) w2) (fun k => Iff.rfl) (show LftW b 4611686018427387000 _ w2 s3 w3 from ⟨f3, b3, F3, hw3, hm3⟩)
  obtain ⟨b', k0, k3, z3, hFb, hT5⟩ := hT4.ncalls 0
  rw [hs] at hT5
  have hF4 := hm4.ge (B := w.heap.size) hF hb2.size
  have HB4 := Lib.hid ((hb2.trans (hm4.below hF hb2.size)).setCell (p := ⟨b', 3, none⟩) (hF4 _ hFb) (.int .i64 0))
  have HT5 := Lib.hid hT5
  have HF4 := Lib.hid hF4
  have hFit : Fits (laidSt n) := by rw [← hs]; exact ⟨f3.words, f3.len, f3.code⟩
  have hBud : Bud (laidSt n) 4611686018427387000 := by rw [← hs]; unfold Bud at *; simp only; omega
  clear hw2 hT hBt hw3 hm3 hT4 hm4 hF hs q f3 b3 hF4 hFb hT5 hb2 c0 hbud hfit
  go_wp2
  go_ret
  exact ⟨t, F4, rfl, HT5.out, HF4.out, hFit, hBud, HB4.out⟩
end Go.Proofs.Ytcgdpclhlepofaa
