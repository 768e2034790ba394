/- Two keys put into a list over 60 words, by contract. -/
import Derived.Test.YtcohopobjppmaaaLiM
import Derived.Test.YtcohopobjppmaaaLiO
import Derived.Test.YtcohopobjppmaaaLiN0
import Derived.Test.YtcohopobjppmaaaRoomL
namespace Go.Proofs.Ytcohopobjppmaaa
open Go.RowKit
set_option maxHeartbeats 4000000
set_option linter.unusedVariables false
set_option linter.unusedSimpArgs false

theorem kKeys_ {s : St} {l : List Int} (h : kKeys s = some l) : ∃ p ks e s1, hfind (fun _ => true) 61 s 0 18 = some (p, ks, e, s1) ∧ keysOf ks p e = (l, 0) := by
  unfold kKeys at h
  cases hc : hfind (fun _ => true) 61 s 0 18 with
  | none => rw [hc] at h; simp at h
  | some y =>
    obtain ⟨p, ks, e, s1⟩ := y
    rw [hc] at h
    simp only at h
    split at h
    · rename_i hh
      split at h
      · rename_i he
        subst he
        obtain rfl : ks = l := by simpa using h
        refine ⟨p, ks, 0, s1, rfl, ?_⟩
        unfold keysOf firstOf
        rw [if_pos hh]
        simp
      · simp at h
    · simp at h
def TrueP (B : Nat) (w : World) (e : Ending) (w' : World) : Prop := e = .returned (.bool true) ∧ Below B w w'
set_option maxRecDepth 100000 in
theorem known_b (w : World) : Calls Try.prog 6 #[] w (TrueP w.heap.size w) := by
  obtain ⟨s3, s4, s5, h3, h4, h5, hk⟩ := kAll
  obtain ⟨p3, k3, e3, t3, f3, i3⟩ := kNext_ h3
  obtain ⟨p4, k4, e4, t4, f4, i4⟩ := kNext_ h4
  obtain ⟨p5, k5, e5, t5, f5, i5⟩ := kNext_ h5
  clear h3 h4 h5
  go_enter Try.func6, Try.ntmps6
  go_wp2_with (refine wpList_zeros w rfl _ _ rfl .i64 .i64 60 60 60 rfl rfl rfl rfl (by omega) ?_; intro w1 hz1 hb1)
  refine (over_b (l := List.replicate 60 0) (by simpa using hz1.lies) (by simp)).mono ?_
  rintro _ w2 ⟨t, F2, rfl, T2, m2⟩
  have T2 : Txw w2 t F2 kS0 := T2
  have fit : Fits kS0 := ⟨fun x hx => by rw [List.eq_of_mem_replicate hx]; omega, by simp [kS0], by simp [kS0], by simp [kS0]⟩
  have bud : Bud kS0 (4000000 + 18) := by unfold Bud; simp [kS0]
  have M2 := (Fr.of_below hb1 (Nat.le_refl _) (fun _ => False)).trans m2
  clear hz1 hb1 m2
  go_wp2_with fail
  refine (lay_b (n := 4000000) T2 fit bud (by omega) (by omega) (by omega) (by omega) (by omega) M2).mono ?_
  rintro _ w3 ⟨er3, sa, qa, rfl, f3', b3', F3, T3, M3⟩
  obtain ⟨rfl, rfl⟩ : er3 = 0 ∧ sa = kSA := by simpa using qa.out.symm.trans kA
  clear T2 M2 fit bud qa
  go_wp2_with fail
  refine (new_b (n := 3000000) T3 f3' (b3'.mono (by omega)) (by omega) M3).mono ?_
  rintro _ w4 ⟨x4, er4, sb, qb, dx4, dy4, rfl, f4', b4', F4, T4, M4⟩
  obtain ⟨rfl, rfl, rfl⟩ : x4 = 18 ∧ er4 = 0 ∧ sb = kSB := by simpa using qb.out.symm.trans kB
  clear T3 M3 f3' b3' qb
  go_wp2_with fail
  refine (insert_b (n := 2000000) T4 f4' (b4'.mono (by omega)) (by omega) (by omega) (by omega) (by omega) (by omega) (by omega) f3 M4).mono ?_
  rw [i3]
  rintro _ w5 ⟨rfl, f5', b5', F5, T5, M5⟩
  clear T4 M4 f4' b4'
  go_wp2_with fail
  refine (insert_b (n := 1000000) T5 f5' (b5'.mono (by omega)) (by omega) (by omega) (by omega) (by omega) (by omega) (by omega) f4 M5).mono ?_
  rw [i4]
  rintro _ w6 ⟨rfl, f6', b6', F6, T6, M6⟩
  clear T5 M5 f5' b5'
  go_wp2_with fail
  refine (insert_b (n := 500000) T6 f6' (b6'.mono (by omega)) (by omega) (by omega) (by omega) (by omega) (by omega) (by omega) f5 M6).mono ?_
  rw [i5]
  rintro _ w7 ⟨rfl, f7', b7', F7, T7, M7⟩
  clear T6 M6 f6' b6'
  go_wp2_with fail
  obtain ⟨p8, k8, e8, t8, f8, i8⟩ := kKeys_ hk
  refine (keys_b (n := 1000) T7 f7' (b7'.mono (by omega)) (by omega) (by omega) (by omega) f8 M7).mono ?_
  rw [i8]
  rintro _ w8 ⟨v8, rfl, f8', b8', W8, F8, T8, M8, o8⟩
  have L8 := W8.lies.alloc (.cells (u64s [2, 5]).toArray 23)
  have L9 := Lies.new w8 [2, 5] (by simp)
  have hB := Lib.hid ((M8.alloc (.cells (u64s [2, 5]).toArray 23)).below (B := w.heap.size) (fun _ h => h.elim) (Nat.le_refl _))
  clear T7 M7 f7' b7' f8 i8 hk f8' b8' W8 T8 M8 o8
  simp only [u64s, List.map_cons, List.map_nil] at L8 L9 hB
  have L8 := Lib.hid L8
  have L9 := Lib.hid L9
  go_wp2_with (refine (words_b L8.out L9.out (by simp)).mono ?_; rintro _ w9 ⟨⟨n9, rfl⟩, rfl⟩)
  go_ret
  exact ⟨rfl, below_drewNs hB.out _⟩
end Go.Proofs.Ytcohopobjppmaaa
