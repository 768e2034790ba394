/- Cells meant by a number, a room with two lists, what is left: by contract. -/
import Derived.Test.YtcohopobjppmaaaLiZ1
import Derived.Test.YtcohopobjppmaaaLiO
import Derived.Test.YtcohopobjppmaaaRoomL
namespace Go.Proofs.Ytcohopobjppmaaa
open Go.RowKit
set_option maxHeartbeats 4000000
set_option linter.unusedVariables false
set_option linter.unusedSimpArgs false

def CellsP (w : World) (e : Ending) (w' : World) : Prop := ∃ m : Int, 40 ≤ m ∧ m ≤ 200 ∧ e = .returned (.int .i64 m) ∧ w = w'
theorem cells_b {n : Int} {w : World} (h1 : -9223372036854775808 ≤ n) (h2 : n ≤ 9223372036854775807) : Calls Try.prog 15 #[.int .i64 n] w (CellsP w) := by
  have a1 : -160 ≤ n.tmod 161 := by have := Int.lt_tmod_of_pos n (show (0 : Int) < 161 by decide); omega
  have a2 : n.tmod 161 ≤ 160 := by have := Int.tmod_lt_of_pos n (show (0 : Int) < 161 by decide); omega
  generalize ht : n.tmod 161 = t at *
  have ht := Lib.hid ht
  go_enter Try.func15, Try.ntmps15
  go_wp2
  go_ret
  refine ⟨_, ?_, ?_, rfl, rfl⟩
  all_goals omega
def lk (kind : Int) : Bool := decide (kind < 1) || (decide (3 ≤ kind) && decide (kind ≤ 7)) || decide (9 < kind)
theorem looks_b {kind : Int} {w : World} : Calls Try.prog 18 #[.int .i64 kind] w fun e w' => e = .returned (.bool (lk kind)) ∧ w = w' := by
  unfold lk
  by_cases h1 : kind < 1
  · have z1 := decide_eq_true h1
    rw [z1]
    clear h1
    go_enter Try.func18, Try.ntmps18
    go_wp2
    go_ret
    exact ⟨by simp, rfl⟩
  · have z1 := decide_eq_false h1
    by_cases h2 : 3 ≤ kind
    · have z2 := decide_eq_true h2
      by_cases h3 : kind ≤ 7
      · have z3 := decide_eq_true h3
        rw [z1, z2, z3]
        clear h1 h2 h3
        go_enter Try.func18, Try.ntmps18
        go_wp2
        go_ret
        exact ⟨by simp, rfl⟩
      · have z3 := decide_eq_false h3
        rw [z1, z2, z3]
        clear h1 h2 h3
        go_enter Try.func18, Try.ntmps18
        go_wp2
        go_ret
        exact ⟨by simp, rfl⟩
    · have z2 := decide_eq_false h2
      rw [z1, z2]
      clear h1 h2
      go_enter Try.func18, Try.ntmps18
      go_wp2
      go_ret
      exact ⟨by simp, rfl⟩
theorem layGo_run : ∀ (k : Nat) (a : Int) (s : St), s.fail < 0 → 2 ≤ a → a + k ≤ s.W.length → s.W.length ≤ 200 → ∃ s', layGo k a s = (0, s') ∧ s'.W.length = s.W.length ∧ s'.fail = s.fail ∧ (∀ b, 0 ≤ b → (b < a ∨ ca s.W b = 0) → ca s'.W b = ca s.W b)
  | 0, a, s, hf, _, _, _ => ⟨s, rfl, rfl, rfl, fun _ _ _ => rfl⟩
  | k + 1, a, s, hf, ha, hl, hW => by
    have h := sp (s := s) (a := a) 0 hf (by omega)
    obtain ⟨s', h1, h2, h3, h4⟩ := layGo_run k (a + 1) (pt1 s a 0) hf (by omega) (by show a + 1 + k ≤ ((s.W.set _ _).length : Int); rw [List.length_set]; omega) (by show (s.W.set _ _).length ≤ 200; rw [List.length_set]; omega)
    refine ⟨s', ?_, h2.trans (by show (s.W.set _ _).length = _; rw [List.length_set]), h3, fun b hb0 hb => ?_⟩
    · rw [layGo, h]; simp only
      rw [if_pos (by simp), uA (by omega) (by omega), h1]
    · by_cases hba : b = a
      · subst hba
        have e0 : ca (pt1 s b 0).W b = 0 := ca_eq (by omega) (by omega)
        rw [h4 b hb0 (.inl (by omega)), e0]
        rcases hb with hb | hb
        · omega
        · exact hb.symm
      · have e0 : ca (pt1 s a 0).W b = ca s.W b := ca_ne (by omega) hb0 hba
        rw [h4 b hb0 (by rw [e0]; rcases hb with hb | hb; exact .inl (by omega); exact .inr hb), e0]
theorem ca_rep (n : Nat) (b : Int) : ca (List.replicate n 0) b = 0 := by
  unfold ca
  rw [List.getD_eq_getElem?_getD]
  by_cases h : b.toNat < n
  · rw [List.getElem?_replicate, if_pos h]; rfl
  · rw [List.getElem?_replicate, if_neg h]; rfl
theorem lay_room {n : Nat} (h1 : 40 ≤ n) (h2 : n ≤ 200) : ∃ s', rLay ⟨List.replicate n 0, 0, 0, -1, 0⟩ 0 18 (n : Int) = (0, s') ∧ Room s'.W (n : Int) [] [] ∧ s'.fail = -1 := by
  have hf : ((-1 : Int)) < 0 := by decide
  have hl : ((List.replicate n (0 : Int)).length : Int) = n := by simp
  have p0 := sp (s := ⟨List.replicate n 0, 0, 0, -1, 0⟩) (a := 0) 18 hf (by simp only; omega)
  have p1 := sp (s := pt1 ⟨List.replicate n 0, 0, 0, -1, 0⟩ 0 18) (a := 1) (n : Int) hf (by show (1 : Int) < (((List.replicate n (0 : Int)).set _ _).length : Int); rw [List.length_set]; omega)
  obtain ⟨s', h3, h4, h5, h6⟩ := layGo_run 16 2 (pt1 (pt1 ⟨List.replicate n 0, 0, 0, -1, 0⟩ 0 18) 1 (n : Int)) hf (by omega) (by show (2 : Int) + 16 ≤ ((((List.replicate n (0 : Int)).set _ _).set _ _).length : Int); rw [List.length_set, List.length_set]; omega) (by show (((List.replicate n (0 : Int)).set _ _).set _ _).length ≤ 200; rw [List.length_set, List.length_set]; simp; omega)
  have hW : s'.W.length = n := h4.trans (by show (((List.replicate n (0 : Int)).set _ _).set _ _).length = n; rw [List.length_set, List.length_set]; simp)
  have g : ∀ b, 0 ≤ b → b ≠ 0 → b ≠ 1 → ca (pt1 (pt1 ⟨List.replicate n 0, 0, 0, -1, 0⟩ 0 18) 1 (n : Int)).W b = 0 := fun b hb h0 h1 => by
    show ca (((List.replicate n (0 : Int)).set _ _).set _ _) b = 0
    rw [ca_ne (by omega) hb h1, ca_ne (by omega) hb h0, ca_rep]
  have g0 : ca (pt1 (pt1 ⟨List.replicate n 0, 0, 0, -1, 0⟩ 0 18) 1 (n : Int)).W 0 = 18 := by
    show ca (((List.replicate n (0 : Int)).set _ _).set _ _) 0 = 18
    rw [ca_ne (by omega) (by omega) (by omega)]
    exact ca_eq (by omega) (by omega)
  have g1 : ca (pt1 (pt1 ⟨List.replicate n 0, 0, 0, -1, 0⟩ 0 18) 1 (n : Int)).W 1 = n := by
    show ca (((List.replicate n (0 : Int)).set _ _).set _ _) 1 = n
    exact ca_eq (by omega) (by rw [List.length_set]; omega)
  refine ⟨s', ?_, ⟨by omega, by omega, by omega, ?_, ?_, by simp; omega, by simp, by simp, ?_, trivial⟩, h5⟩
  · unfold rLay
    rw [if_neg (by omega), p0]; simp only
    rw [if_pos (by simp), show uAdd 0 1 = 1 by decide, p1]; simp only
    rw [if_pos (by simp), show uAdd 1 1 = 2 by decide, h3]
  · rw [h6 1 (by omega) (.inl (by omega)), g1]
  · rw [h6 0 (by omega) (.inl (by omega)), g0]; simp
  · rw [h6 3 (by omega) (.inr (g 3 (by omega) (by omega) (by omega))), g 3 (by omega) (by omega) (by omega)]; rfl
theorem begin_plain {n : Nat} (h1 : 40 ≤ n) (h2 : n ≤ 200) : ∃ s1 l0 s2 l1 s3 fs, rLay ⟨List.replicate n 0, 0, 0, -1, 0⟩ 0 18 (n : Int) = (0, s1) ∧ lNew s1 0 = (l0, 0, s2) ∧ lNew s2 0 = (l1, 0, s3) ∧ Both s3.W (n : Int) l0 l1 [] [] fs ∧ s3.fail = -1 := by
  obtain ⟨s1, a1, a2, a3⟩ := lay_room h1 h2
  have a4 := a2.nx
  obtain ⟨l0, s2, fs2, b1, b2, b3, b4, b5, b6, b7⟩ := new_ok a2 (by rw [a3]; decide) (.inr (by rw [a4]; simp; omega))
  have b8 := b3.nx
  have hsp : spc s2.W (n : Int) fs2 := by
    by_cases hfs : fs2 = []
    · subst hfs
      exact .inr (by rw [b8]; simp; omega)
    · exact .inl hfs
  obtain ⟨l1, s3, fs3, c1, c2, c3, c4, c5, c6, c7⟩ := new_ok b3 (by rw [b6, a3]; decide) hsp
  have hR : Room s3.W (n : Int) (l0 :: ([] ++ [l1])) fs3 := c3.perm (List.Perm.swap l0 l1 [])
  refine ⟨s1, l0, s2, l1, s3, fs3, a1, b1, c1, ⟨⟨by simpa using hR, Lst.of (os := [l1]) (by simpa using hR) (c5.run (fun x hx => ?_) b4.run) .nil⟩, c4⟩, by rw [c6, b6, a3]⟩
  obtain rfl : x = (l0, 0) := by simpa using hx
  simp
def BegP (w : World) (n : Nat) (e : Ending) (w' : World) : Prop :=
  ∃ t l0 l1 s F' fs, e = .returned (.tuple #[.pointer (some ⟨t, 0, none⟩), .agg #[.int .u64 l0, .int .u64 l1], .bool true]) ∧ Fits s ∧ s.fail = -1 ∧ Bud s 4000000 ∧ Txw w' t F' s ∧ Fr (fun _ => False) w F' w' ∧ Both s.W (n : Int) l0 l1 [] [] fs
set_option maxRecDepth 100000 in
theorem begin_b {n : Nat} {w : World} (h1 : 40 ≤ n) (h2 : n ≤ 200) : Calls Try.prog 16 #[.int .i64 (n : Int)] w (BegP w n) := by
  obtain ⟨s1, l0, s2, l1, s3, fs, a1, a2, a3, a4, a5⟩ := begin_plain h1 h2
  have hb0 := a4.bd
  have b1 : (40 : Int) ≤ n := by omega
  have b2 : (n : Int) ≤ 200 := by omega
  have hww : IntKind.u64.wrap (n : Int) = (n : Int) := by rw [IntKind.wrap_u64]; omega
  have a1 := Lib.hid a1
  have a2 := Lib.hid a2
  have a3 := Lib.hid a3
  have a4 := Lib.hid a4
  have a5 := Lib.hid a5
  have hb0 := Lib.hid hb0
  have x3 := Lib.hid (Blk.new w 46 #[.int .u64 0, .int .u64 0])
  have hB1 := Lib.hid ((Fr.refl (fun _ => False) w).alloc (.cells #[.int .u64 0, .int .u64 0] 46))
  have hs1 : Hid ((w.alloc (.cells #[.int .u64 0, .int .u64 0] 46)).heap.size = w.heap.size + 1) := Lib.hid (by simp)
  go_enter Try.func16, Try.ntmps16
  go_wp2_with (refine wpList_zeros (w.alloc (.cells #[.int .u64 0, .int .u64 0] 46)) rfl _ _ rfl .i64 .i64 (n : Int) (n : Int) n rfl rfl rfl rfl (by omega) ?_; intro w2 hz2 hb2)
  have y3 := Lib.hid (Blk.below x3.out hb2 (by simp))
  have hB2 := Lib.hid (hB1.out.trans (Fr.of_below hb2 (Nat.le_refl _) (fun _ => False)))
  have hs2 : Hid (w.heap.size + 1 ≤ w2.heap.size) := Lib.hid (by have := hb2.size; rw [hs1.out] at this; exact this)
  clear hb2
  have hlz : Lies w2 (.slice (some ⟨(w.alloc (.cells #[.int .u64 0, .int .u64 0] 46)).heap.size, 0, none⟩) n n) (List.replicate n 0) := hz2.lies
  have hlz := Lib.hid hlz
  clear hz2 x3 hB1
  simp only [World.size_alloc] at hlz
  refine (over_b (l := List.replicate n 0) hlz.out (by simp; omega)).mono ?_
  rintro _ w3 ⟨t, F3, rfl, T3, m3⟩
  have hbb : Below w2.heap.size w2 w3 := m3.below (fun _ h => h.elim) (Nat.le_refl _)
  have y3 := Lib.hid (Blk.below y3.out hbb (by have := hs2.out; omega))
  have n3 : Hid (¬ F3 w.heap.size) := Lib.hid fun c => (m3.new _ c).elim id fun c => by have := hs2.out; omega
  have m3 := Lib.hid (hB2.out.trans m3)
  have hs3 : Hid (w.heap.size + 1 ≤ w3.heap.size) := Lib.hid (Nat.le_trans hs2.out hbb.size)
  have T3 := Lib.hid T3
  clear hbb hB2 hlz hs2
  go_wp2_with fail
  have f4 : Fits ⟨List.replicate n 0, 0, 0, -1, 0⟩ := ⟨fun x hx => by rw [List.eq_of_mem_replicate hx]; omega, by simp; omega, by simp, by simp⟩
  have b4 : Bud ⟨List.replicate n 0, 0, 0, -1, 0⟩ (4000012 + 18) := by unfold Bud; simp
  have y6 := Lib.hid (Blk.new w3 46 #[.int .u64 0, .int .u64 0])
  have n6 : Hid (¬ F3 w3.heap.size) := Lib.hid fun c => by have := T3.out.lt _ c; omega
  have y3 := Lib.hid (y3.out.alloc (.cells #[.int .u64 0, .int .u64 0] 46))
  have h36 : Hid (w.heap.size ≠ w3.heap.size ∧ w.heap.size ≤ w3.heap.size) := Lib.hid ⟨by have := hs3.out; omega, by have := hs3.out; omega⟩
  have T4 := T3.out.alloc (.cells #[.int .u64 0, .int .u64 0] 46)
  have M := Lib.hid (m3.out.alloc (.cells #[.int .u64 0, .int .u64 0] 46))
  clear m3 T3 hs3
  generalize w3.alloc (.cells #[.int .u64 0, .int .u64 0] 46) = w4 at *
  generalize hh3 : w.heap.size = h3 at *
  generalize w3.heap.size = h6 at *
  have hh3 := Lib.hid hh3
  refine (lay_b (n := 4000012) T4 f4 b4 (by omega) (by omega) (by omega) (by omega) (by omega) (Fr.refl _ _)).mono ?_
  rintro _ w5 ⟨er, sa, qa, rfl, f5, b5, F5, T5, m5⟩
  obtain ⟨rfl, rfl⟩ : er = 0 ∧ sa = s1 := by simpa using qa.out.symm.trans a1.out
  have k3 : Hid (¬ F5 h3) := Lib.hid fun c => (m5.new _ c).elim n3.out fun c => by have := y3.out.lt; omega
  have k6 : Hid (¬ F5 h6) := Lib.hid fun c => (m5.new _ c).elim n6.out fun c => by have := y6.out.lt; omega
  have y3 := Lib.hid (m5.blk y3.out n3.out)
  have y6 := Lib.hid (m5.blk y6.out n6.out)
  have n3 := k3
  have n6 := k6
  have M := Lib.hid (M.out.trans m5)
  clear m5 k3 k6
  clear T4 f4 b4 qa
  have b5 : Bud sa (4000006 + 6) := b5
  go_wp2_with fail
  refine (new_b (n := 4000006) T5 f5 b5 (by omega) (Fr.refl _ _)).mono ?_
  rintro _ w6 ⟨x6, er6, sb, qb, dx6, dy6, rfl, f6, b6, F6, T6, m6⟩
  obtain ⟨rfl, rfl, rfl⟩ : x6 = l0 ∧ er6 = 0 ∧ sb = s2 := by simpa using qb.out.symm.trans a2.out
  have k3 : Hid (¬ F6 h3) := Lib.hid fun c => (m6.new _ c).elim n3.out fun c => by have := y3.out.lt; omega
  have k6 : Hid (¬ F6 h6) := Lib.hid fun c => (m6.new _ c).elim n6.out fun c => by have := y6.out.lt; omega
  have y3 := Lib.hid (m6.blk y3.out n3.out)
  have y6 := Lib.hid (m6.blk y6.out n6.out)
  have n3 := k3
  have n6 := k6
  have M := Lib.hid (M.out.trans m6)
  clear m6 k3 k6
  clear T5 f5 b5 qb
  have b6 : Bud sb (4000000 + 6) := b6
  go_wp2_with fail
  refine (new_b (n := 4000000) T6 f6 b6 (by omega) (Fr.refl _ _)).mono ?_
  rintro _ w7 ⟨x7, er7, sc, qc, dx7, dy7, rfl, f7, b7, F7, T7, m7⟩
  obtain ⟨rfl, rfl, rfl⟩ : x7 = l1 ∧ er7 = 0 ∧ sc = s3 := by simpa using qc.out.symm.trans a3.out
  have k3 : Hid (¬ F7 h3) := Lib.hid fun c => (m7.new _ c).elim n3.out fun c => by have := y3.out.lt; omega
  have k6 : Hid (¬ F7 h6) := Lib.hid fun c => (m7.new _ c).elim n6.out fun c => by have := y6.out.lt; omega
  have y3 := Lib.hid (m7.blk y3.out n3.out)
  have y6 := Lib.hid (m7.blk y6.out n6.out)
  have n3 := k3
  have n6 := k6
  have M := Lib.hid (M.out.trans m7)
  clear m7 k3 k6
  clear T6 f6 b6 qc
  have c60 := y6.out.cell 0
  have c61 := y6.out.cell 1
  have z60 := y6.out.frozen 0
  have z61 := y6.out.frozen 1
  have d30 := y3.out.cell 0
  have d31 := y3.out.cell 1
  have z30 := y3.out.frozen 0
  have z31 := y3.out.frozen 1
  simp only [List.getElem?_toArray, List.getElem?_cons_zero, List.getElem?_cons_succ] at c60 c61 d30 d31
  have hne : h3 ≠ h6 := h36.out.1
  have e6 := (y6.out.set_ 0 (.int .u64 x6)).set_ 1 (.int .u64 x7)
  have e3 := (y3.out.far (p := ⟨h6, 0, none⟩) hne (.int .u64 x6)).far (p := ⟨h6, 1, none⟩) hne (.int .u64 x7)
  have g60 := e6.cell 0
  have g61 := e6.cell 1
  have g30 := e3.cell 0
  have g31 := e3.cell 1
  have v30 := e3.frozen 0
  have v31 := e3.frozen 1
  simp at g60 g61 g30 g31
  have T8 := Lib.hid ((T7.set (p := ⟨h6, 0, none⟩) n6.out (.int .u64 x6)).set (p := ⟨h6, 1, none⟩) n6.out (.int .u64 x7))
  have M8 := Lib.hid ((M.out.set (p := ⟨h6, 0, none⟩) (.inr (.inr (by have := h36.out.2; have := hh3.out; simp only; omega))) (.int .u64 x6)).set (p := ⟨h6, 1, none⟩) (.inr (.inr (by have := h36.out.2; have := hh3.out; simp only; omega))) (.int .u64 x7))
  have e3 := Lib.hid e3
  clear T7 M y3 y6 e6 hne
  go_wp2_with fail
  refine wp_region_mix (fun _ => True) [3, 1, 3, 3, 3, 3, 3, 3, 3, 3, 3, 3, 3, 2, 3] (List.range 15) (by kernel_rfl) (by kernel_rfl) (fun _ _ h => h) trivial ?_
  repeat ((first | refine wpMix_pure rfl rfl (fun K hK => ?_) | refine wpMix_loc rfl rfl (fun K hK => ?_) | refine wpMix_any rfl rfl (fun K hK => ?_)); go_simp; refine hK _ _ ?_; clear hK K)
  refine wpMix_loud rfl rfl (fun m1 K hK => ?_)
  go_wp2_with fail
  refine hK _ _ (fun _ => trivial) ?_; clear hK K
  repeat ((first | refine wpMix_pure rfl rfl (fun K hK => ?_) | refine wpMix_loc rfl rfl (fun K hK => ?_) | refine wpMix_any rfl rfl (fun K hK => ?_)); go_simp; refine hK _ _ ?_; clear hK K)
  refine wpMix_nil (fun m2 => ?_)
  have y9 := ((((e3.out.drewN (1 + m1)).set_ 0 (.int .u64 x6)).set_ 1 (.int .u64 x7)).drewN m2)
  have r0 := y9.cell 0
  have r1 := y9.cell 1
  simp at r0 r1
  have T9 := Lib.hid ((((T8.out.drewN (1 + m1)).set (p := ⟨h3, 0, none⟩) n3.out (.int .u64 x6)).set (p := ⟨h3, 1, none⟩) n3.out (.int .u64 x7)).drewN m2)
  have M9 := Lib.hid ((((M8.out.drewN (1 + m1)).set (p := ⟨h3, 0, none⟩) (.inr (.inr (by have := hh3.out; simp only; omega))) (.int .u64 x6)).set (p := ⟨h3, 1, none⟩) (.inr (.inr (by have := hh3.out; simp only; omega))) (.int .u64 x7)).drewN m2)
  clear y9
  go_wp2_with fail
  refine bodyPost_ret (v := .tuple #[.pointer (some ⟨t, 0, none⟩), .agg #[.int .u64 x6, .int .u64 x7], .bool true]) (by simp [results, Try.func16, go_sem, r0, r1]) rfl ?_
  exact ⟨t, x6, x7, sc, F7, fs, rfl, f7, a5.out, b7, T9.out, M9.out, a4.out⟩
end Go.Proofs.Ytcohopobjppmaaa
