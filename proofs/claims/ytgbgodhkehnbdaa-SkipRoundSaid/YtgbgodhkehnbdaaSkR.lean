/- SkipRound: the law's walk. -/
import Derived.Test.YtgbgodhkehnbdaaSkK
import Derived.Test.YtgbgodhkehnbdaaSkR0
namespace Go.Proofs.Ytgbgodhkehnbdaa
open Go.RowKit
set_option maxHeartbeats 2000000
set_option linter.unusedVariables false
set_option linter.unusedSimpArgs false

theorem Txw.logv {w : World} {t : Nat} {F : Nat → Prop} {s : St} (h : Txw w t F s) : ∃ A cp, w.cell? ⟨t, 1, none⟩ = some (.slice A s.log.length cp) ∧ s.log.length ≤ cp := by
  obtain ⟨g, cap, vl, h1, _, h3, _, _⟩ := h
  obtain ⟨A, cp, rfl, hc, _⟩ := h3.shape
  exact ⟨A, cp, by rw [h1.cell]; rfl, hc⟩

set_option maxRecDepth 100000 in
theorem skipRound_walk (W : World) : Calls Try.prog 4 #[] W fun e w' => e = .returned (.bool true) ∧ Below W.heap.size W w' := by
  go_enter Try.func4, Try.ntmps4
  go_wp2_with (refine wpList_zeros W rfl _ _ rfl .i64 .i64 60 60 60 rfl rfl rfl rfl (by omega) ?_; intro w1 hz1 hb1; have ht1 := Txw.make (gd := 0) (er := 0) (l := List.replicate 60 0) (by simpa using hz1) (by simp); simp only [List.length_replicate] at ht1; have hs1 := hb1.size; have hb1' := hb1.alloc hs1 (.cells #[.slice (some ⟨W.heap.size, 0, none⟩) 60 60, .slice none 0 0, .int .i64 0, .int .i64 0] 32))
  have c0 : (w1.alloc (.cells #[.slice (some ⟨W.heap.size, 0, none⟩) 60 60, .slice none 0 0, .int .i64 0, .int .i64 0] 32)).cell? ⟨w1.heap.size, 0, none⟩ = some (.slice (some ⟨W.heap.size, 0, none⟩) 60 60) := (Blk.new _ _ _).cell 0
  obtain ⟨g, cap, c0', _, _, cw⟩ := ht1.words
  obtain ⟨rfl, rfl⟩ : W.heap.size = g ∧ 60 = cap := by
    rw [c0] at c0'
    simpa using c0'
  obtain ⟨d20, z20⟩ := cw 20 (by simp)
  obtain ⟨d40, z40⟩ := cw 40 (by simp)
  obtain ⟨d41, z41⟩ := cw 41 (by simp)
  obtain ⟨d42, z42⟩ := cw 42 (by simp)
  have hTs := Lib.hid ht1
  have hb1'' := Lib.hid hb1'
  have hne : w1.heap.size ≠ W.heap.size := by have := (hz1.lt W.heap.size rfl); omega
  clear cw c0' hz1 ht1 hb1 hb1'
  generalize hW2 : w1.alloc (.cells #[.slice (some ⟨W.heap.size, 0, none⟩) 60 60, .slice none 0 0, .int .i64 0, .int .i64 0] 32) = w2 at *
  generalize w1.heap.size = t at *
  generalize hG : W.heap.size = g at *
  clear hW2
  refine wp_region_mix (fun _ => True) [3, 3, 3, 1, 3, 3, 3, 1, 3, 3, 3, 1, 3, 3, 3, 1, 3, 2, 3, 2, 3, 2, 3, 2] (List.range 24) (by kernel_rfl) (by kernel_rfl) (fun _ _ h => h) trivial ?_
  repeat ((first | refine wpMix_pure rfl rfl (fun K hK => ?_) | refine wpMix_loc rfl rfl (fun K hK => ?_) | refine wpMix_any rfl rfl (fun K hK => ?_)); go_simp; refine hK _ _ ?_; clear hK K)
  refine wpMix_loud rfl rfl (fun n1 K hK => ?_)
  go_wp2
  refine hK _ _ (fun _ => trivial) ?_; clear hK K
  repeat ((first | refine wpMix_pure rfl rfl (fun K hK => ?_) | refine wpMix_loc rfl rfl (fun K hK => ?_) | refine wpMix_any rfl rfl (fun K hK => ?_)); go_simp; refine hK _ _ ?_; clear hK K)
  refine wpMix_loud rfl rfl (fun n2 K hK => ?_)
  go_wp2
  refine hK _ _ (fun _ => trivial) ?_; clear hK K
  repeat ((first | refine wpMix_pure rfl rfl (fun K hK => ?_) | refine wpMix_loc rfl rfl (fun K hK => ?_) | refine wpMix_any rfl rfl (fun K hK => ?_)); go_simp; refine hK _ _ ?_; clear hK K)
  refine wpMix_loud rfl rfl (fun n3 K hK => ?_)
  go_wp2
  refine hK _ _ (fun _ => trivial) ?_; clear hK K
  repeat ((first | refine wpMix_pure rfl rfl (fun K hK => ?_) | refine wpMix_loc rfl rfl (fun K hK => ?_) | refine wpMix_any rfl rfl (fun K hK => ?_)); go_simp; refine hK _ _ ?_; clear hK K)
  refine wpMix_loud rfl rfl (fun n4 K hK => ?_)
  go_wp2
  refine hK _ _ (fun _ => trivial) ?_; clear hK K
  repeat ((first | refine wpMix_pure rfl rfl (fun K hK => ?_) | refine wpMix_loc rfl rfl (fun K hK => ?_) | refine wpMix_any rfl rfl (fun K hK => ?_)); go_simp; refine hK _ _ ?_; clear hK K)
  refine wpMix_nil (fun n5 => ?_)
  obtain ⟨w3, hw3⟩ : ∃ u, u = ((((((((w2.drewN (1 + n1)).setCell ⟨g, 20, none⟩ (.int .u64 41)).drewN n2).setCell ⟨g, 40, none⟩ (.int .u64 5)).drewN n3).setCell ⟨g, 41, none⟩ (.int .u64 1)).drewN n4).setCell ⟨g, 42, none⟩ (.int .u64 41)).drewN n5 := ⟨_, rfl⟩
  have hg0 : ∀ (w : World) (i : Nat) (u : Value), w.cell? ⟨t, 0, none⟩ = some (.slice (some ⟨g, 0, none⟩) 60 60) → (w.setCell ⟨g, i, none⟩ u).cell? ⟨t, 0, none⟩ = some (.slice (some ⟨g, 0, none⟩) 60 60) := fun w i u h => (World.cell?_setCell_other w ⟨g, i, none⟩ ⟨t, 0, none⟩ u (fun e => hne (congrArg Addr.block e).symm)).trans h
  have k1 : Txw ((w2.drewN (1 + n1)).setCell ⟨g, 20, none⟩ (.int .u64 41)) t (fun k => k = t ∨ k = g) ⟨(List.replicate 60 0).set 20 41, [], 0, 0⟩ := (hTs.out.drewN _).word (g := g) (cap := 60) c0 20 41 (by simp)
  have m1 := hg0 (w2.drewN (1 + n1)) 20 (.int .u64 41) c0
  have k2 := (k1.drewN n2).word (g := g) (cap := 60) (by simpa using m1) 40 5 (by simp)
  have m2 := hg0 _ 40 (.int .u64 5) (show (((w2.drewN (1 + n1)).setCell ⟨g, 20, none⟩ (.int .u64 41)).drewN n2).cell? _ = _ from m1)
  have k3 := (k2.drewN n3).word (g := g) (cap := 60) (by simpa using m2) 41 1 (by simp)
  have m3 := hg0 _ 41 (.int .u64 1) (show (((((w2.drewN (1 + n1)).setCell ⟨g, 20, none⟩ (.int .u64 41)).drewN n2).setCell ⟨g, 40, none⟩ (.int .u64 5)).drewN n3).cell? _ = _ from m2)
  have k4 := (k3.drewN n4).word (g := g) (cap := 60) (by simpa using m3) 42 41 (by simp)
  have hT3 : Txw w3 t (fun k => k = t ∨ k = g) ⟨rW, [], 0, 0⟩ := by rw [hw3]; exact k4.drewN n5
  have hT3' := Lib.hid hT3
  have hF3 : ∀ k, k = t ∨ k = g → W.heap.size ≤ k := fun k hk => by rcases hk with rfl | rfl <;> omega
  have hb3 : Hid (Below g W w3) := Lib.hid (by rw [hw3]; exact below_drewNs ((below_drewNs ((below_drewNs ((below_drewNs ((below_drewNs hb1''.out _).setCell (Nat.le_refl _) _) _).setCell (Nat.le_refl _) _) _).setCell (Nat.le_refl _) _) _).setCell (Nat.le_refl _) _) _)
  rw [← hw3]
  have HF3 := Lib.hid hF3
  have HG := Lib.hid hG
  clear hT3 k1 k2 k3 k4 m1 m2 m3 hg0 hw3 d20 d40 d41 d42 z20 z40 z41 z42 c0 hb1'' hTs hF3 hG
  have fit : Fits ⟨rW, [], 0, 0⟩ := ⟨by decide +kernel, by decide +kernel, by decide⟩
  have bud : Bud ⟨rW, [], 0, 0⟩ 1000000 := by unfold Bud; simp
  go_wp2_with fail
  refine (skkeys_b (n := 800000) hT3'.out fit (bud.mono (by omega)) (by omega) (Fr.refl _ _)).mono ?_
  rintro e w4 ⟨v, l, er, s4, q, rfl, f4, b4, hv, ho, F4, hw4, hm4, hn4⟩
  obtain ⟨s4', e4, W4, E4, L4⟩ := rkeys_all ⟨rW, [], 0, 0⟩ rfl rfl
  obtain ⟨rfl, rfl, rfl⟩ : [] = l ∧ 320 = er ∧ s4' = s4 := by have := e4.symm.trans q.out; simpa using this
  obtain ⟨Av, cv, rfl, _⟩ := hv.shape
  obtain ⟨AL, cL, dL, hcL⟩ := hw4.logv
  rw [L4] at dL
  have hw4' := Lib.hid hw4
  have hm4' := Lib.hid hm4
  clear q e4 hw4 hm4 ho hn4 hv L4
  go_wp2_with (go_at_call 16; refine (num_b _ _).mono ?_; rintro e _ ⟨rfl, rfl⟩)
  refine (sklen_b (n := 600000) hw4'.out f4 (b4.mono (by omega)) (by omega) hm4'.out).mono ?_
  rintro e w5 ⟨l5, e5, s5, q, rfl, f5, b5, F5, hw5, hm5⟩
  obtain ⟨s5', e5', W5, E5, L5⟩ := rkeys_all s4' W4 E4
  obtain ⟨rfl, rfl, rfl⟩ : [] = l5 ∧ 320 = e5 ∧ s5' = s5 := by have := e5'.symm.trans q.out; simpa using this
  clear q e5' L5 hw4' hm4' dL hcL
  go_wp2_with (go_at_call 16; refine (num_b _ _).mono ?_; rintro e _ ⟨rfl, rfl⟩)
  refine (skhas_b (n := 400000) hw5 f5 (b5.mono (by omega)) (by omega) hm5).mono ?_
  rintro e w6 ⟨b6, e6, s6, q, rfl, f6, bu6, F6, hw6, hm6⟩
  obtain ⟨s6', e6', W6, E6⟩ := rhas s5' W5 E5
  obtain ⟨rfl, rfl, rfl⟩ : false = b6 ∧ 320 = e6 ∧ s6' = s6 := by have := e6'.symm.trans q.out; simpa using this
  clear q e6' hw5 hm5
  have hl6 : s6'.W.length = 60 := by rw [W6]; exact rW_len
  obtain ⟨g6, c6, t6, hg6, hc6, cw6⟩ := hw6.words
  obtain ⟨x41, z41⟩ := cw6 41 (by omega)
  rw [W6] at x41
  have hT7 := Lib.hid (hw6.word t6 41 9 (by omega))
  have hm7 := Lib.hid (hm6.set (p := ⟨g6, 41, none⟩) (.inl hg6) (.int .u64 9))
  rw [hl6] at t6 hc6
  have hc6' : (60 : Int) ≤ c6 := by omega
  clear cw6 hw6 hm6 hl6 hc6
  have fit7 : Fits { s6' with W := s6'.W.set 41 9 } := ⟨fun y hy => by
    rcases List.mem_or_eq_of_mem_set hy with h1 | h1
    · exact f6.words y h1
    · omega, by simpa using f6.len, f6.code⟩
  have bud7 : Bud { s6' with W := s6'.W.set 41 9 } 400000 := bu6
  go_wp2_with (go_at_call 16; refine (num_b _ _).mono ?_; rintro e _ ⟨rfl, rfl⟩)
  refine (skremove_b (n := 200000) hT7.out fit7 (bud7.mono (by omega)) (by omega) (by omega) (by omega) (by omega) hm7.out).mono ?_
  rintro e w8 ⟨b8, e8, s8, q, rfl, f8, bu8, F8, hw8, hm8⟩
  obtain ⟨s8', e8'⟩ := rremove { s6' with W := s6'.W.set 41 9 } (by rw [W6]; rfl) E6
  obtain ⟨rfl, rfl, rfl⟩ : false = b8 ∧ 320 = e8 ∧ s8' = s8 := by have := e8'.symm.trans q.out; simpa using this
  have hbel := Lib.hid (hb3.out.trans (hm8.below (B := g) (fun k hk => by have := HF3.out k hk; have := HG.out; omega) (by have := hb3.out.size; have := HG.out; omega)))
  clear q e8' hT7 hm7 hw8 hm8
  go_wp2_with (first | (go_at_call 16; refine (num_b _ _).mono ?_; rintro e _ ⟨rfl, rfl⟩) | (go_at_call 11; refine (known_b _).mono ?_; rintro e w9 ⟨rfl, hb9⟩))
  go_ret
  exact ⟨rfl, by rw [HG.out]; exact hbel.out.trans (hb9.mono (by have := hbel.out.size; have := HG.out; omega))⟩
end Go.Proofs.Ytgbgodhkehnbdaa
