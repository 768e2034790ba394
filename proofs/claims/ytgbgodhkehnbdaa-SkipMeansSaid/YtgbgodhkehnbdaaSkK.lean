/- A small set that the document names. -/
import Derived.Test.YtgbgodhkehnbdaaSkE
import Derived.Test.YtgbgodhkehnbdaaSkK0
import Derived.Test.YtgbgodhkehnbdaaTxLm
namespace Go.Proofs.Ytgbgodhkehnbdaa
open Go.RowKit
set_option maxHeartbeats 2000000
set_option linter.unusedVariables false
set_option linter.unusedSimpArgs false

theorem num_b (x : Int) (w : World) : Calls Try.prog 16 #[.int .i64 x] w fun e w' => e = .returned (.int .i64 x) ∧ w = w' := by
  go_enter Try.func16, Try.ntmps16
  go_wp2
  go_ret
  exact ⟨rfl, rfl⟩

theorem known_b (w : World) : Calls Try.prog 11 #[] w fun e w' => e = .returned (.bool true) ∧ Below w.heap.size w w' := by
  go_enter Try.func11, Try.ntmps11
  go_wp2_with (first
    | (refine wpList_zeros w rfl _ _ rfl .i64 .i64 100 100 100 rfl rfl rfl rfl (by omega) ?_; intro w1 hz1 hb1; have ht1 := Txw.make (gd := 0) (er := 0) (l := List.replicate 100 0) (by simpa using hz1) (by simp); rw [← kn0_e] at ht1; simp only [List.length_replicate] at ht1; have hs1 := hb1.size; have hb1' := hb1.alloc hs1 (.cells #[.slice (some ⟨w.heap.size, 0, none⟩) 100 100, .slice none 0 0, .int .i64 0, .int .i64 0] 32); have hfr := Fr.of_below hb1' (Nat.le_refl _) (fun _ => False))
    | (go_at_call 16; refine (num_b _ _).mono ?_; rintro e _ ⟨rfl, rfl⟩))
  have hm1 := Fr.refl (fun k => k = w1.heap.size ∨ k = w.heap.size) (w1.alloc (.cells #[.slice (some ⟨w.heap.size, 0, none⟩) 100 100, .slice none 0 0, .int .i64 0, .int .i64 0] 32))
  have hF : ∀ k, k = w1.heap.size ∨ k = w.heap.size → w.heap.size ≤ k := fun k hk => by rcases hk with rfl | rfl <;> omega
  clear hz1 hb1 hfr
  refine (lay_b (n := 999982) ht1 fits_kn0 bud_kn0 (by omega) (by omega) (by omega) (by omega) (by omega) hm1).mono ?_
  rintro e w2 ⟨er, s2, q, rfl, f2, b2, F2, hw2, hm2⟩
  obtain ⟨rfl, rfl⟩ : 0 = er ∧ kn1 = s2 := by have := kn1_e.symm.trans q.out; simpa using this
  clear q hm1 ht1
  go_wp2_with (go_at_call 16; refine (num_b _ _).mono ?_; rintro e _ ⟨rfl, rfl⟩)
  refine (sklay_b (n := 999970) hw2 f2 (b2.mono (by omega)) (by omega) hm2).mono ?_
  rintro e w3 ⟨er, s3, q, rfl, f3, b3, F3, hw3, hm3⟩
  obtain ⟨rfl, rfl⟩ : 0 = er ∧ kn2 = s3 := by have := kn2_e.symm.trans q.out; simpa using this
  clear q hw2 hm2
  go_wp2_with (go_at_call 16; refine (num_b _ _).mono ?_; rintro e _ ⟨rfl, rfl⟩)
  refine (skinsert_b (n := 800000) hw3 f3 (b3.mono (by omega)) (by omega) (by omega) (by omega) (by omega) (by omega) (by omega) hm3).mono ?_
  rintro e w4 ⟨bo, er, s4, q, rfl, f4, b4, F4, hw4, hm4⟩
  obtain ⟨rfl, rfl, rfl⟩ : true = bo ∧ 0 = er ∧ kn3 = s4 := by have := kn3_e.symm.trans q.out; simpa using this
  clear q hw3 hm3
  go_wp2_with (go_at_call 16; refine (num_b _ _).mono ?_; rintro e _ ⟨rfl, rfl⟩)
  refine (skinsert_b (n := 600000) hw4 f4 (b4.mono (by omega)) (by omega) (by omega) (by omega) (by omega) (by omega) (by omega) hm4).mono ?_
  rintro e w5 ⟨bo, er, s5, q, rfl, f5, b5, F5, hw5, hm5⟩
  obtain ⟨rfl, rfl, rfl⟩ : true = bo ∧ 0 = er ∧ kn4 = s5 := by have := kn4_e.symm.trans q.out; simpa using this
  clear q hw4 hm4
  go_wp2_with (go_at_call 16; refine (num_b _ _).mono ?_; rintro e _ ⟨rfl, rfl⟩)
  refine (skinsert_b (n := 400000) hw5 f5 (b5.mono (by omega)) (by omega) (by omega) (by omega) (by omega) (by omega) (by omega) hm5).mono ?_
  rintro e w6 ⟨bo, er, s6, q, rfl, f6, b6, F6, hw6, hm6⟩
  obtain ⟨rfl, rfl, rfl⟩ : false = bo ∧ 0 = er ∧ kn5 = s6 := by have := kn5_e.symm.trans q.out; simpa using this
  clear q hw5 hm5
  go_wp2_with (go_at_call 16; refine (num_b _ _).mono ?_; rintro e _ ⟨rfl, rfl⟩)
  refine (skkeys_b (n := 200000) hw6 f6 (b6.mono (by omega)) (by omega) hm6).mono ?_
  rintro e w7 ⟨v, l, er, s7, q, rfl, f7, b7, hv, ho, F7, hw7, hm7, hn7⟩
  obtain ⟨rfl, rfl, rfl⟩ : [3, 7] = l ∧ 0 = er ∧ kn6 = s7 := by have := kn6_e.symm.trans q.out; simpa using this
  obtain ⟨A7, c7, rfl, _⟩ := hv.shape
  obtain ⟨g, cap, t0, hcap, tw, tl⟩ := hw7.lies
  have hlen := kn6_len
  have d20 := tw 20 (by omega)
  have d21 := tw 21 (by omega)
  have hL := tl 43 4 (by omega)
  rw [kn6_20] at d20
  rw [kn6_21] at d21
  rw [kn6_43] at hL
  rw [hlen] at t0 hcap
  have hcap1 : (47 : Int) ≤ cap := by omega
  have hcap2 : (100 : Int) ≤ cap := by omega
  have hcap3 : (43 : Int) ≤ cap := by omega
  have hne : (cap = 43) = False := eq_false (by omega)
  have hbel := Lib.hid (hb1'.trans (hm7.below hF (by simp; omega)))
  have hv' := Lib.hid hv
  have hL' := Lib.hid hL
  clear q hw6 hm6 tw tl hw7 hm7 hF hn7 ho hv hL hb1' hlen hcap
  go_wp2_with (go_at_call 16; refine (num_b _ _).mono ?_; rintro e _ ⟨rfl, rfl⟩)
  refine (words_b (l1 := [3, 7]) (l2 := [3, 7]) (hv'.out.lies.alloc _) (Lies.new w7 [3, 7] (by simp)) (by simp)).mono ?_
  rintro e _ ⟨⟨n1, rfl⟩, rfl⟩
  have t1 := cell_alloc_ (o := .cells (u64s [3, 7]).toArray 33) t0
  have d1 := cell_alloc_ (o := .cells (u64s [3, 7]).toArray 33) d20
  have d2 := cell_alloc_ (o := .cells (u64s [3, 7]).toArray 33) d21
  have hL2 := Lib.hid (hL'.out.alloc (.cells (u64s [3, 7]).toArray 33))
  have hb2 := Lib.hid (hbel.out.alloc hbel.out.size (.cells (u64s [3, 7]).toArray 33))
  generalize hW8 : w7.alloc (.cells (u64s [3, 7]).toArray 33) = w8 at *
  clear hW8 d20 d21 t0
  go_wp2_with fail
  refine (words_b (l1 := [3, 2, 41, 0]) (l2 := [3, 2, 41, 0]) ((hL2.out.drewN n1).alloc _) (Lies.new (w8.drewN n1) [3, 2, 41, 0] (by simp)) (by simp)).mono ?_
  rintro e _ ⟨⟨n2, rfl⟩, rfl⟩
  have hb3 := Lib.hid (below_drewNs ((below_drewNs hb2.out n1).alloc hb2.out.size (.cells (u64s [3, 2, 41, 0]).toArray 33)) n2)
  go_wp2_with fail
  go_ret
  exact ⟨rfl, hb3.out⟩
end Go.Proofs.Ytgbgodhkehnbdaa
