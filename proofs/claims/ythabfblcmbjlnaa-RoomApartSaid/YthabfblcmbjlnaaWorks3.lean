/- A few of the chapter's examples. -/
import Derived.Test.YthabfblcmbjlnaaWorks
import Derived.Test.YthabfblcmbjlnaaWorks2
namespace Go.Proofs.Ythabfblcmbjlnaa
open Go.RowKit
set_option maxHeartbeats 1000000
set_option linter.unusedVariables false

theorem lies_new (w : World) (l : List Int) : Lies (w.alloc (.cells (l.map (Value.int .u64)).toArray 31)) (.slice (some ⟨w.heap.size, 0, none⟩) l.length l.length) l :=
  ⟨_, _, rfl, fun j hj => ⟨_, rfl, by rw [(Blk.new w 31 (l.map (Value.int .u64)).toArray).cell j, List.getElem?_toArray, List.getElem?_map, List.getElem?_eq_getElem hj, List.getD_eq_getElem?_getD, List.getElem?_eq_getElem hj]; rfl⟩⟩

theorem works_b (w : World) : Calls Try.prog 8 #[] w fun e w' => Below w.heap.size w w' ∧ e = .returned (.bool true) := by
  go_enter Try.func8, Try.ntmps8
  go_wp2_with (first
    | (go_at_call 9; refine (over_b 100 (by omega) _).mono ?_; rintro e w1 ⟨t, b, g, cap, rfl, hw1, hb1, ht, hb, hg⟩; obtain ⟨lb, lg⟩ := hw1.2.lt; have lt := hw1.1.lt; rw [← wk0_e] at hw1; have hf := fits_wk0; have hm := Mod.refl b g w1)
    | (go_at_call 19; refine (given_b w8.heap.size (s := wk7) hw8 f7 (by omega) (by omega) (Mod.refl _ _ _) (Nat.le_refl _) (Nat.le_refl _) hw8.1.lt hw8.2.lt.1 hw8.2.lt.2).mono ?_; rintro e w9 ⟨v, r, er, sn, q, v9, f8, rfl, hw9, hm9⟩; obtain ⟨rfl, rfl, rfl⟩ : [24, 20] = r ∧ 0 = er ∧ wk8 = sn := (by have := wk8_e.symm.trans q.out; simpa using this); obtain ⟨A9, c9, rfl⟩ := v9.shape)
    | (go_at_call 12; refine (give_b (s := wk6) hw7 f6 (by omega) (by omega) (by omega) (by omega) hm7).mono ?_; rintro e w8 ⟨er, sn, q, f7, rfl, hw8, hm8⟩; obtain ⟨rfl, rfl⟩ : 0 = er ∧ wk7 = sn := (by have := wk7_e.symm.trans q.out; simpa using this))
    | (go_at_call 12; refine (give_b (s := wk5) hw6 f5 (by omega) (by omega) (by omega) (by omega) hm6).mono ?_; rintro e w7 ⟨er, sn, q, f6, rfl, hw7, hm7⟩; obtain ⟨rfl, rfl⟩ : 0 = er ∧ wk6 = sn := (by have := wk6_e.symm.trans q.out; simpa using this))
    | (go_at_call 13; refine (left_b (s := wk4) hw5 f4 (by omega) hm5).mono ?_; rintro e w6 ⟨r, er, sn, q, _, _, f5, rfl, hw6, hm6⟩; obtain ⟨rfl, rfl, rfl⟩ : 2 = r ∧ 0 = er ∧ wk5 = sn := (by have := wk5_e.symm.trans q.out; simpa using this))
    | (go_at_call 14; refine (take_b (s := wk3) hw4 f3 (by omega) (by omega) hm4).mono ?_; rintro e w5 ⟨r, er, sn, q, _, _, f4, rfl, hw5, hm5⟩; obtain ⟨rfl, rfl, rfl⟩ : 0 = r ∧ 9 = er ∧ wk4 = sn := (by have := wk4_e.symm.trans q.out; simpa using this))
    | (go_at_call 14; refine (take_b (s := wk2) hw3 f2 (by omega) (by omega) hm3).mono ?_; rintro e w4 ⟨r, er, sn, q, _, _, f3, rfl, hw4, hm4⟩; obtain ⟨rfl, rfl, rfl⟩ : 24 = r ∧ 0 = er ∧ wk3 = sn := (by have := wk3_e.symm.trans q.out; simpa using this))
    | (go_at_call 14; refine (take_b (s := wk1) hw2 f1 (by omega) (by omega) hm2).mono ?_; rintro e w3 ⟨r, er, sn, q, _, _, f2, rfl, hw3, hm3⟩; obtain ⟨rfl, rfl, rfl⟩ : 20 = r ∧ 0 = er ∧ wk2 = sn := (by have := wk2_e.symm.trans q.out; simpa using this))
    | (go_at_call 11; refine (lay_b hw1 fits_wk0 (by omega) (by omega) (by omega) (by omega) (by omega) hm).mono ?_; rintro e w2 ⟨er, s1, q1, f1, rfl, hw2, hm2⟩; obtain ⟨rfl, rfl⟩ : 0 = er ∧ wk1 = s1 := (by have := wk1_e.symm.trans q1.out; simpa using this); clear q1 hw1)
    | (go_at_call 6; refine (words_b (l1 := [24, 20]) (l2 := [24, 20]) (v9.keep fun k _ h => Below.heap_alloc _ _ k h).lies (lies_new _ [24, 20]) (by decide)).mono ?_; rintro e _ ⟨⟨nn, rfl⟩, rfl⟩)
    | (go_at_call 10; refine (num_b _ _).mono ?_; rintro e _ ⟨rfl, rfl⟩))
  go_ret
  have hm8' := hm8.below hb hg hb1.size
  have hs8 := hm8.size
  have hm9' := hm9.below hb hg (Nat.le_trans hb1.size hs8)
  exact ⟨below_drewNs (((hb1.trans hm8').trans hm9').alloc (Nat.le_trans (Nat.le_trans hb1.size hs8) hm9.size) _) nn, rfl⟩
end Go.Proofs.Ythabfblcmbjlnaa
