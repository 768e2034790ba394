/- One call of both: the statement's block and the document's world answer alike. -/
import Derived.Test.YthabfblcmbjlnaaWords
import Derived.Deep.RegionHeld3
namespace Go.Proofs.Ythabfblcmbjlnaa
open Go.RowKit
set_option maxHeartbeats 4000000
set_option linter.unusedVariables false

/-- The block t over the world b, whose words lie at g, and a world b2, whose words lie at g2: alike, and all from B on. -/
structure Pair (w : World) (B t b g cap b2 g2 cap2 : Nat) (s : St) : Prop where
  own : Txw w t b g cap s
  ref : Wld w b2 g2 cap2 s
  fits : Fits s
  n1 : b ≠ b2
  n2 : b ≠ g2
  n3 : g ≠ b2
  n4 : g ≠ g2
  n5 : t ≠ b2
  n6 : t ≠ g2
  lt : B ≤ t
  lb : B ≤ b
  lg : B ≤ g
  lb2 : B ≤ b2
  lg2 : B ≤ g2




theorem Wld.alloc {b g cap : Nat} {s : St} {w : World} (h : Wld w b g cap s) (o : Obj) : Wld (w.alloc o) b g cap s := by
  obtain ⟨k1, cur, k2, k3⟩ := h
  exact ⟨k1.alloc o, cur, k2.alloc o, k3⟩
theorem Txw.alloc {t b g cap : Nat} {s : St} {w : World} (h : Txw w t b g cap s) (o : Obj) : Txw (w.alloc o) t b g cap s := ⟨h.1.alloc o, h.2.alloc o⟩

theorem num_b (x : Int) (w : World) : Calls Try.prog 10 #[.int .i64 x] w fun e w' => w' = w ∧ e = .returned (.int .i64 x) := by
  go_enter Try.func10, Try.ntmps10
  go_wp2
  go_ret
  exact ⟨rfl, rfl⟩

theorem givenGo_len : ∀ (k : Nat) (a : Int) (l : List Int) (s : St), (givenGo k a l s).1.length ≤ l.length + k
  | 0, a, l, s => by
    rw [givenGo]
    rcases sget s a with ⟨x, e, s1⟩
    simp only
    split
    · split <;> simp
    · simp
  | k + 1, a, l, s => by
    rw [givenGo]
    rcases sget s a with ⟨x, e, s1⟩
    simp only
    split
    · split
      · simp
      · have := givenGo_len k (IntKind.u64.wrap (x - 1)) (l ++ [IntKind.u64.wrap (x - 1)]) s1
        simp at this ⊢
        omega
    · simp
theorem given_len {s s' : St} {a z : Int} {l : List Int} {er : Int} (h : rGiven s a z = (l, er, s')) : (l.length : Int) ≤ 9223372036854775807 := by
  unfold rGiven at h
  split at h
  · injection h with h1 _; subst h1; simp
  · have := givenGo_len 65536 (uAdd (uAdd a 1) z) [] s
    rw [h] at this
    simp at this
    omega

theorem Pair.fin {B t b g cap b2 g2 cap2 : Nat} {s s' : St} {w wo w1 w2 : World} (hp : Pair w B t b g cap b2 g2 cap2 s) (hbel : Below B w wo) (hB : B ≤ wo.heap.size) (f : Fits s') (hw1 : Txw w1 t b g cap s') (hm1 : Mod b g wo w1) (hw2 : Wld w2 b2 g2 cap2 s') (hm2 : Mod b2 g2 w1 w2) :
    Pair w2 B t b g cap b2 g2 cap2 s' ∧ Below B w w2 :=
  ⟨⟨hw1.mod hm2 hp.n5 hp.n6 hp.n1 hp.n2 hp.n3 hp.n4, hw2, f, hp.n1, hp.n2, hp.n3, hp.n4, hp.n5, hp.n6, hp.lt, hp.lb, hp.lg, hp.lb2, hp.lg2⟩,
    hbel.trans ((hm1.below hp.lb hp.lg hB).trans (hm2.below hp.lb2 hp.lg2 (Nat.le_trans hB hm1.size)))⟩

set_option maxRecDepth 20000 in
theorem step_a {B t b g cap b2 g2 cap2 : Nat} {s : St} {K x y z : Int} {w : World} (hp : Pair w B t b g cap b2 g2 cap2 s) (hx : 0 ≤ x) (hx' : x ≤ 18446744073709551615) (hy : 0 ≤ y) (hy' : y ≤ 18446744073709551615) (hz : 0 ≤ z) (hz' : z ≤ 18446744073709551615) (hK : K ≠ 6 ∧ K ≠ 7) (hB : B ≤ w.heap.size) :
    Calls Try.prog 5 #[.pointer (some ⟨t, 0, none⟩), .pointer (some ⟨b2, 0, none⟩), .agg #[.int .i64 K, .int .u64 x, .int .u64 y, .int .u64 z]] w fun e w' =>
      ∃ s', e = .returned (.bool true) ∧ Pair w' B t b g cap b2 g2 cap2 s' ∧ Below B w w' := by
  have hpp := Lib.hid hp
  obtain ⟨hw, hw2, hf, n1, n2, n3, n4, n5, n6, lt, lb, lg, lb2, lg2⟩ := hp
  have b1 := hw.1.lt
  have b3 := hw.2.lt
  have b4 := hw2.lt
  have k1 : w.heap.size ≠ b := by omega
  have k2 : w.heap.size ≠ g := by omega
  have k3 : w.heap.size ≠ b2 := by omega
  have k4 : w.heap.size ≠ g2 := by omega
  have hwo : Txw (w.alloc (.cells #[.int .i64 K, .int .u64 x, .int .u64 y, .int .u64 z] 33)) t b g cap s := hw.alloc _
  have hwo2 : Wld (w.alloc (.cells #[.int .i64 K, .int .u64 x, .int .u64 y, .int .u64 z] 33)) b2 g2 cap2 s := hw2.alloc _
  have hbo : Blk (w.alloc (.cells #[.int .i64 K, .int .u64 x, .int .u64 y, .int .u64 z] 33)) w.heap.size 33 #[.int .i64 K, .int .u64 x, .int .u64 y, .int .u64 z] := Blk.new _ _ _
  have hbel : Below B w (w.alloc (.cells #[.int .i64 K, .int .u64 x, .int .u64 y, .int .u64 z] 33)) := (Below.refl _ _).alloc hB _
  have hwd : Txw (w.alloc (.cells #[.int .i64 K, .int .u64 x, .int .u64 y, .int .u64 z] 33)).drew t b g cap s := hwo
  have hwd2 : Wld (w.alloc (.cells #[.int .i64 K, .int .u64 x, .int .u64 y, .int .u64 z] 33)).drew b2 g2 cap2 s := hwo2
  have hbd : Blk (w.alloc (.cells #[.int .i64 K, .int .u64 x, .int .u64 y, .int .u64 z] 33)).drew w.heap.size 33 #[.int .i64 K, .int .u64 x, .int .u64 y, .int .u64 z] := hbo
  have hbeld := hbel.drew
  have hsz : B ≤ (w.alloc (.cells #[.int .i64 K, .int .u64 x, .int .u64 y, .int .u64 z] 33)).heap.size := Nat.le_trans hB (Nat.le_of_lt hbo.lt)
  have hszd : B ≤ (w.alloc (.cells #[.int .i64 K, .int .u64 x, .int .u64 y, .int .u64 z] 33)).drew.heap.size := hsz
  have l1 : t < (w.alloc (.cells #[.int .i64 K, .int .u64 x, .int .u64 y, .int .u64 z] 33)).heap.size := hwo.1.lt
  have l2 := hwo.2.lt.1
  have l3 := hwo.2.lt.2
  have l4 := hwo2.lt.1
  have l5 := hwo2.lt.2
  have hbel := Lib.hid hbel
  have hbeld := Lib.hid hbeld
  have hsz := Lib.hid hsz
  have hszd := Lib.hid hszd
  go_enter Try.func5, Try.ntmps5
  go_wp2_with (first
       | (go_at_call 14; refine (take_b hwo hf hx hy (Mod.refl _ _ _)).mono ?_; rintro e w1 ⟨r, er, s1, q1, r1, r1', f1, rfl, hw1, hm1⟩; have hw21 := hwo2.mod hm1 (Ne.symm n1) (Ne.symm n3) (Ne.symm n2) (Ne.symm n4); have hbo1 := hm1.blk hbo k1 k2; have d0 := hbo1.cell 0; have d1 := hbo1.cell 1; have d2 := hbo1.cell 2; have d3 := hbo1.cell 3; simp only [List.getElem?_toArray, List.getElem?_cons_zero, List.getElem?_cons_succ] at d0 d1 d2 d3)
       | (go_at_call 16; refine (wtake_b hw21 hf hx hy (Mod.refl _ _ _)).mono ?_; rintro e w2 ⟨r2, er2, s2, q2, r3, r3', f2, rfl, hw22, hm2⟩; obtain ⟨rfl, rfl, rfl⟩ : r = r2 ∧ er = er2 ∧ s1 = s2 := (by have := q1.out.symm.trans q2.out; simpa using this); have hbo2 := hm2.blk hbo1 k3 k4; have e1 := hbo2.cell 1; have e2 := hbo2.cell 2; have e3 := hbo2.cell 3; simp only [List.getElem?_toArray, List.getElem?_cons_zero, List.getElem?_cons_succ] at e1 e2 e3)
       | (go_at_call 13; refine (left_b hwo hf hx (Mod.refl _ _ _)).mono ?_; rintro e w1 ⟨r, er, s1, q1, r1, r1', f1, rfl, hw1, hm1⟩; have hw21 := hwo2.mod hm1 (Ne.symm n1) (Ne.symm n3) (Ne.symm n2) (Ne.symm n4); have hbo1 := hm1.blk hbo k1 k2; have d0 := hbo1.cell 0; have d1 := hbo1.cell 1; have d2 := hbo1.cell 2; have d3 := hbo1.cell 3; simp only [List.getElem?_toArray, List.getElem?_cons_zero, List.getElem?_cons_succ] at d0 d1 d2 d3)
       | (go_at_call 18; refine (wfree_b hw21 hf hx (Mod.refl _ _ _)).mono ?_; rintro e w2 ⟨r2, er2, s2, q2, r3, r3', f2, rfl, hw22, hm2⟩; obtain ⟨rfl, rfl, rfl⟩ : r = r2 ∧ er = er2 ∧ s1 = s2 := (by have := q1.out.symm.trans q2.out; simpa using this); have hbo2 := hm2.blk hbo1 k3 k4; have e1 := hbo2.cell 1; have e2 := hbo2.cell 2; have e3 := hbo2.cell 3; simp only [List.getElem?_toArray, List.getElem?_cons_zero, List.getElem?_cons_succ] at e1 e2 e3)
       | (go_at_call 19; refine (given_b _ hwo hf hx hy (Mod.refl _ _ _) (Nat.le_refl _) (Nat.le_refl _) l1 l2 l3).mono ?_; rintro e w1 ⟨v, r, er, s1, q1, v1, f1, rfl, hw1, hm1⟩; have hw21 := hwo2.mod hm1 (Ne.symm n1) (Ne.symm n3) (Ne.symm n2) (Ne.symm n4); have hbo1 := hm1.blk hbo k1 k2; have d0 := hbo1.cell 0; have d1 := hbo1.cell 1; have d2 := hbo1.cell 2; have d3 := hbo1.cell 3; simp only [List.getElem?_toArray, List.getElem?_cons_zero, List.getElem?_cons_succ] at d0 d1 d2 d3)
       | (go_at_call 20; refine (wgiven_b _ hw21 hf hx hy (Mod.refl _ _ _) (Nat.le_refl _) (Nat.le_refl _) (Nat.lt_of_lt_of_le l4 hm1.size) (Nat.lt_of_lt_of_le l5 hm1.size)).mono ?_; rintro e w2 ⟨v', r2, er2, s2, q2, v2, f2, rfl, hw22, hm2⟩; obtain ⟨rfl, rfl, rfl⟩ : r = r2 ∧ er = er2 ∧ s1 = s2 := (by have := q1.out.symm.trans q2.out; simpa using this); have hbo2 := hm2.blk hbo1 k3 k4; have e1 := hbo2.cell 1; have e2 := hbo2.cell 2; have e3 := hbo2.cell 3; simp only [List.getElem?_toArray, List.getElem?_cons_zero, List.getElem?_cons_succ] at e1 e2 e3; have v3 := v1.keep (w' := w2) (fun k k1 k2 => hm2.block k k2 (by omega) (by omega)))
       | (go_at_call 6; refine (words_b v3.lies v2.lies (given_len q1.out)).mono ?_; rintro e _ ⟨⟨nn, rfl⟩, rfl⟩)
       | (go_at_call 10; refine (num_b _ _).mono ?_; rintro e _ ⟨rfl, rfl⟩))
  · have o1 := hbo.cell 1
    have o2 := hbo.cell 2
    have o3 := hbo.cell 3
    simp only [List.getElem?_toArray, List.getElem?_cons_zero, List.getElem?_cons_succ] at o1 o2 o3
    go_region_held3 (fun W => W.cell? ⟨w.heap.size, 1, none⟩ = some (.int .u64 x) ∧ W.cell? ⟨w.heap.size, 2, none⟩ = some (.int .u64 y) ∧ W.cell? ⟨w.heap.size, 3, none⟩ = some (.int .u64 z)) (first | exact ⟨o1, o2, o3⟩ | exact ⟨d1, d2, d3⟩ | exact ⟨e1, e2, e3⟩)
      (first
       | (go_at_call 11; refine (lay_b hwd hf hx hy hy' hz hz' (Mod.refl _ _ _)).mono ?_; rintro e w1 ⟨er, s1, q1, f1, rfl, hw1, hm1⟩; have hw21 := hwd2.mod hm1 (Ne.symm n1) (Ne.symm n3) (Ne.symm n2) (Ne.symm n4); have hbo1 := hm1.blk hbd k1 k2; have d0 := hbo1.cell 0; have d1 := hbo1.cell 1; have d2 := hbo1.cell 2; have d3 := hbo1.cell 3; simp only [List.getElem?_toArray, List.getElem?_cons_zero, List.getElem?_cons_succ] at d0 d1 d2 d3)
       | (go_at_call 15; refine (wlay_b hw21 hf hx hy hy' hz hz' (Mod.refl _ _ _)).mono ?_; rintro e w2 ⟨er2, s2, q2, f2, rfl, hw22, hm2⟩; obtain ⟨rfl, rfl⟩ : er = er2 ∧ s1 = s2 := (by have := q1.out.symm.trans q2.out; simpa using this); have hbo2 := hm2.blk hbo1 k3 k4; have e1 := hbo2.cell 1; have e2 := hbo2.cell 2; have e3 := hbo2.cell 3; simp only [List.getElem?_toArray, List.getElem?_cons_zero, List.getElem?_cons_succ] at e1 e2 e3)
       | (go_at_call 12; refine (give_b hwd hf hx hy hy' hz (Mod.refl _ _ _)).mono ?_; rintro e w1 ⟨er, s1, q1, f1, rfl, hw1, hm1⟩; have hw21 := hwd2.mod hm1 (Ne.symm n1) (Ne.symm n3) (Ne.symm n2) (Ne.symm n4); have hbo1 := hm1.blk hbd k1 k2; have d0 := hbo1.cell 0; have d1 := hbo1.cell 1; have d2 := hbo1.cell 2; have d3 := hbo1.cell 3; simp only [List.getElem?_toArray, List.getElem?_cons_zero, List.getElem?_cons_succ] at d0 d1 d2 d3)
       | (go_at_call 17; refine (wgive_b hw21 hf hx hy hy' hz (Mod.refl _ _ _)).mono ?_; rintro e w2 ⟨er2, s2, q2, f2, rfl, hw22, hm2⟩; obtain ⟨rfl, rfl⟩ : er = er2 ∧ s1 = s2 := (by have := q1.out.symm.trans q2.out; simpa using this); have hbo2 := hm2.blk hbo1 k3 k4; have e1 := hbo2.cell 1; have e2 := hbo2.cell 2; have e3 := hbo2.cell 3; simp only [List.getElem?_toArray, List.getElem?_cons_zero, List.getElem?_cons_succ] at e1 e2 e3)
       | (go_at_call 10; refine (num_b _ _).mono ?_; rintro e _ ⟨rfl, rfl⟩))
    go_wp2
    go_ret
    exact ⟨_, rfl, hpp.out.fin hbeld.out hszd.out f1 hw1 hm1 hw22 hm2⟩
  · go_ret
    exact ⟨_, rfl, hpp.out.fin hbel.out hsz.out f1 hw1 hm1 hw22 hm2⟩
  · have o1 := hbo.cell 1
    have o2 := hbo.cell 2
    have o3 := hbo.cell 3
    simp only [List.getElem?_toArray, List.getElem?_cons_zero, List.getElem?_cons_succ] at o1 o2 o3
    go_region_held3 (fun W => W.cell? ⟨w.heap.size, 1, none⟩ = some (.int .u64 x) ∧ W.cell? ⟨w.heap.size, 2, none⟩ = some (.int .u64 y) ∧ W.cell? ⟨w.heap.size, 3, none⟩ = some (.int .u64 z)) (first | exact ⟨o1, o2, o3⟩ | exact ⟨d1, d2, d3⟩ | exact ⟨e1, e2, e3⟩)
      (first
       | (go_at_call 11; refine (lay_b hwd hf hx hy hy' hz hz' (Mod.refl _ _ _)).mono ?_; rintro e w1 ⟨er, s1, q1, f1, rfl, hw1, hm1⟩; have hw21 := hwd2.mod hm1 (Ne.symm n1) (Ne.symm n3) (Ne.symm n2) (Ne.symm n4); have hbo1 := hm1.blk hbd k1 k2; have d0 := hbo1.cell 0; have d1 := hbo1.cell 1; have d2 := hbo1.cell 2; have d3 := hbo1.cell 3; simp only [List.getElem?_toArray, List.getElem?_cons_zero, List.getElem?_cons_succ] at d0 d1 d2 d3)
       | (go_at_call 15; refine (wlay_b hw21 hf hx hy hy' hz hz' (Mod.refl _ _ _)).mono ?_; rintro e w2 ⟨er2, s2, q2, f2, rfl, hw22, hm2⟩; obtain ⟨rfl, rfl⟩ : er = er2 ∧ s1 = s2 := (by have := q1.out.symm.trans q2.out; simpa using this); have hbo2 := hm2.blk hbo1 k3 k4; have e1 := hbo2.cell 1; have e2 := hbo2.cell 2; have e3 := hbo2.cell 3; simp only [List.getElem?_toArray, List.getElem?_cons_zero, List.getElem?_cons_succ] at e1 e2 e3)
       | (go_at_call 12; refine (give_b hwd hf hx hy hy' hz (Mod.refl _ _ _)).mono ?_; rintro e w1 ⟨er, s1, q1, f1, rfl, hw1, hm1⟩; have hw21 := hwd2.mod hm1 (Ne.symm n1) (Ne.symm n3) (Ne.symm n2) (Ne.symm n4); have hbo1 := hm1.blk hbd k1 k2; have d0 := hbo1.cell 0; have d1 := hbo1.cell 1; have d2 := hbo1.cell 2; have d3 := hbo1.cell 3; simp only [List.getElem?_toArray, List.getElem?_cons_zero, List.getElem?_cons_succ] at d0 d1 d2 d3)
       | (go_at_call 17; refine (wgive_b hw21 hf hx hy hy' hz (Mod.refl _ _ _)).mono ?_; rintro e w2 ⟨er2, s2, q2, f2, rfl, hw22, hm2⟩; obtain ⟨rfl, rfl⟩ : er = er2 ∧ s1 = s2 := (by have := q1.out.symm.trans q2.out; simpa using this); have hbo2 := hm2.blk hbo1 k3 k4; have e1 := hbo2.cell 1; have e2 := hbo2.cell 2; have e3 := hbo2.cell 3; simp only [List.getElem?_toArray, List.getElem?_cons_zero, List.getElem?_cons_succ] at e1 e2 e3)
       | (go_at_call 10; refine (num_b _ _).mono ?_; rintro e _ ⟨rfl, rfl⟩))
    go_wp2
    go_ret
    exact ⟨_, rfl, hpp.out.fin hbeld.out hszd.out f1 hw1 hm1 hw22 hm2⟩
  · go_ret
    exact ⟨_, rfl, hpp.out.fin hbel.out hsz.out f1 hw1 hm1 hw22 hm2⟩
  · go_ret
    exact ⟨_, rfl, hpp.out.fin hbel.out hsz.out f1 hw1 hm1 hw22 (hm2.drewN nn)⟩
  · go_ret
    exact ⟨s, rfl, ⟨hwo, hwo2, hf, n1, n2, n3, n4, n5, n6, lt, lb, lg, lb2, lg2⟩, hbel.out⟩
end Go.Proofs.Ythabfblcmbjlnaa
