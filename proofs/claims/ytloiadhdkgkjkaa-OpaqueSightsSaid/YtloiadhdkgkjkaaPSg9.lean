/- The document's answer for chapter 16: Sights by contract. -/
import Derived.Test.YtloiadhdkgkjkaaPSg1
import Derived.Test.YtloiadhdkgkjkaaPSg2
import Derived.Test.YtloiadhdkgkjkaaPSg8
namespace Go.Proofs.Ytloiadhdkgkjkaa
open Go.RowKit
set_option maxHeartbeats 40000000
set_option linter.unusedVariables false
set_option linter.unusedSimpArgs false
theorem okTo_of_odd {l : List Ev} (h : (odd l).2 = 0) : ∀ n, n ≤ l.length → okTo l n
  | 0, _ => fun j hj => by omega
  | n + 1, hn => by
    have h1 := okTo_of_odd h n (by omega)
    by_cases hw : wrong (rn l n) (evAt l n) = 0
    · exact h1.succ hw
    · have := odd_bad h1 (by omega) hw
      rw [this] at h
      exact absurd h hw
theorem seeOdd_zero {n : Nat} {l : List Ev} (h : (seeOdd n l).2 = 0) : seeOdd n l = (-1, 0) := by
  unfold seeOdd at h ⊢
  by_cases h0 : n = 0 ∨ 65536 < n
  · rw [if_pos h0] at h; simp at h
  rw [if_neg h0] at h ⊢
  by_cases h1 : (odd l).2 ≠ 0
  · rw [if_pos h1] at h; exact absurd h h1
  rw [if_neg h1] at h ⊢
  by_cases h2 : 0 ≤ idxE plainE l
  · rw [if_pos h2] at h; simp at h
  rw [if_neg h2] at h ⊢
  by_cases h3 : 0 ≤ idxE (farE n) l
  · rw [if_pos h3] at h; simp at h
  rw [if_neg h3]
theorem stS_all (first : List Int) (l : List Ev) (W : List Nat) : ∀ j, ∀ x ∈ (stS first l W j).2, x.length = first.length
  | 0, x, hx => by
    have e : x = first := by simpa [stS] using hx
    rw [e]
  | j + 1, x, hx => by
    have h : x ∈ (stS first l W j).2 ++ [(stS first l W (j + 1)).1] := hx
    rw [List.mem_append, List.mem_singleton] at h
    rcases h with h | h
    · exact stS_all first l W j x h
    · rw [h]; exact (stS_len first l W (j + 1)).1
theorem trsF_rn (l : List Ev) : ∀ n, (trsF l n).length = (rn l n).tries.length
  | 0 => rfl
  | n + 1 => by
    show (if (evAt l n).kd = 1 then trsF l n ++ [tryF l n] else trsF l n).length = (take (rn l n) n (evAt l n)).tries.length
    rw [take_tries_len, ← trsF_rn l n]
    split
    · simp
    · rfl
set_option maxRecDepth 100000 in
theorem rsights_b {w : World} {Fv : Value} {A : Option Addr} {cp : Nat} {first : List Int} {l : List Ev} (hF : Lies w Fv first) (hL : LiesV w (.slice A l.length cp) l) (hwf : ∀ e ∈ l, EvWf e) (hsz : l.length * 48 + 480 ≤ 140737488355328) (hfl : first.length ≤ 9223372036854775807) :
    Calls Try.prog 10 #[Fv, .slice A l.length cp] w fun x w' => Below w.heap.size w w' ∧ ∃ ov, x = .returned (.tuple #[ov, .agg #[.int .i64 (seeOdd first.length l).1, .int .i64 (seeOdd first.length l).2]]) ∧ Sl 40 10 encG w' ov (sigR first l) ∧ ∀ q, own ov q → w.heap.size ≤ q := by
  obtain ⟨Af, cf, rfl, -⟩ := (show ∃ A cp, Fv = .slice A first.length cp ∧ True from by obtain ⟨A, cp, h1, _⟩ := hF; exact ⟨A, cp, h1, trivial⟩)
  have hlen : (l.length : Int) ≤ 9223372036854775807 := by omega
  have hR1 := Blk.new w 28 #[.int .i64 0, .int .i64 0]
  have hb1 := (Below.refl w.heap.size w).alloc (Nat.le_refl _) (.cells #[.int .i64 0, .int .i64 0] 28)
  have C1 := Lib.hid (rWrong_b (hF.below hb1) (hL.below hb1 (Nat.le_refl _)) hwf hsz hfl)
  obtain ⟨o1, ho1⟩ : ∃ o1, (seeOdd first.length l).1 = o1 := ⟨_, rfl⟩
  obtain ⟨o2, ho2⟩ : ∃ o2, (seeOdd first.length l).2 = o2 := ⟨_, rfl⟩
  rw [ho1, ho2] at C1 ⊢
  replace ho1 := Lib.hid ho1
  replace ho2 := Lib.hid ho2
  replace hR1 := Lib.hid hR1
  replace hb1 := Lib.hid hb1
  replace hL := Lib.hid hL
  replace hF := Lib.hid hF
  go_enter Try.func10, Try.ntmps10
  go_wp2_with fail
  refine C1.out.mono ?_
  rintro _ w2 ⟨rfl, hb2⟩
  have hR2 := hR1.out.below hb2 hR1.out.lt
  have hbw2 := hb1.out.trans (hb2.mono hb1.out.size)
  obtain ⟨w3, hw3⟩ : ∃ w3, w3 = w2.alloc (.cells #[.int .i64 o1, .int .i64 o2] 28) := ⟨_, rfl⟩
  have hR3 : Hid (Blk w3 w.heap.size 28 #[.int .i64 0, .int .i64 0]) := Lib.hid (by rw [hw3]; exact hR2.alloc _)
  have hO3 : Hid (Blk w3 w2.heap.size 28 #[.int .i64 o1, .int .i64 o2]) := Lib.hid (by rw [hw3]; exact Blk.new _ _ _)
  have hb3 : Hid (Below w.heap.size w w3) := Lib.hid (by rw [hw3]; exact hbw2.alloc hbw2.size _)
  have hne : w.heap.size ≠ w2.heap.size := Nat.ne_of_lt hR2.lt
  have hlt2 : Hid (w.heap.size < w2.heap.size) := Lib.hid hR2.lt
  subst hw3
  have x0 := (hO3.out.cell 0).trans (show _ = some (.int .i64 o1) from rfl)
  have x1 := (hO3.out.cell 1).trans (show _ = some (.int .i64 o2) from rfl)
  clear hb2 hR2 hbw2 C1 hb1 hR1
  by_cases hz : o2 = 0
  case neg =>
    have hz1 : (o2 != 0) = true := by simpa using hz
    have hsig : sigR first l = [] := by unfold sigR; rw [if_pos (by rw [ho2.out]; exact hz)]
    have r0 := (hR3.out.cell 0).trans (show _ = some (.int .i64 0) from rfl)
    have r1 := (hR3.out.cell 1).trans (show _ = some (.int .i64 0) from rfl)
    have f0 := hR3.out.frozen 0
    have f1 := hR3.out.frozen 1
    replace hz := Lib.hid hz
    replace hsig := Lib.hid hsig
    go_wp2
    refine wp_region_mixH (fun _ => True) [1, 3, 2] (List.range 3) (by kernel_rfl) (by kernel_rfl) (fun _ _ h => h) trivial ?_
    (repeat ((first | refine wpMixH_pure rfl rfl (fun K hK => ?_) | refine wpMixH_loc rfl rfl (fun K hK => ?_) | refine wpMixH_any rfl rfl (fun K hK => ?_)); go_simp; refine hK _ _ ?_; clear hK K))
    refine wpMixH_loud rfl rfl (fun n1 K hK => ?_)
    go_wp2
    refine hK _ _ (fun _ => trivial) ?_; clear hK K
    refine wpMixH_nil (fun n2 => ?_)
    go_wp2
    refine bodyPost_ret (v := .tuple #[.slice none 0 0, .agg #[.int .i64 o1, .int .i64 o2]]) (by simp [results, Try.results10, go_sem, r0, r1, f0, f1]) rfl ⟨below_drewNs (((below_drewNs hb3.out _).setCell (Nat.le_refl _) _).setCell (Nat.le_refl _) _) _, _, rfl, by rw [hsig.out]; exact Sl.nil _, fun q hq => absurd hq (no_own_nil q)⟩
  have hso := seeOdd_zero (n := first.length) (l := l) (by rw [ho2.out]; exact hz)
  obtain rfl : o1 = -1 := by rw [← ho1.out, hso]
  subst hz
  obtain ⟨⟨hf0, hf6⟩, hodd, hpl, hfar⟩ := seeOdd_ok hso
  have hok := okTo_of_odd hodd l.length (Nat.le_refl _)
  have hev : ∀ k, k < l.length → EvWf (evAt l k) ∧ fmd (evAt l k) = true ∧ farE first.length (evAt l k) = false := fun k hk => by
    have he := evAt_get hk
    exact ⟨by rw [he]; exact hwf _ (List.getElem_mem hk), (wrong_zero (hok k hk)).1, by rw [he]; exact idxE_neg hfar hk⟩
  have hth : ∀ k, k < l.length → 0 ≤ (evAt l k).th ∧ (evAt l k).th < 8 := fun k hk => (fmd_bd (hev k hk).2.1).1
  have had3 : ∀ k, k < l.length → (evAt l k).kd = 3 → 0 ≤ (evAt l k).ad ∧ (evAt l k).ad < (first.length : Int) := fun k hk h3 => by
    obtain ⟨h1, -, h2⟩ := hev k hk
    unfold farE at h2
    rw [h3] at h2
    simp at h2
    exact ⟨h1.2.2.1.1, h2⟩
  have had2 : ∀ k, k < l.length → (evAt l k).kd = 2 → 0 ≤ (evAt l k).ad ∧ (evAt l k).ad < (first.length : Int) := fun k hk h3 => by
    obtain ⟨h1, -, h2⟩ := hev k hk
    unfold farE at h2
    rw [h3] at h2
    simp at h2
    exact ⟨h1.2.2.1.1, h2⟩
  have htl : ∀ n, n ≤ l.length → (trsF l n).length * 56 ≤ 140737488355328 := fun n hn => by
    rw [trsF_rn]
    have h1 := (inv_rn hwf hn (fun j hj => hok j (by omega))).two
    have h2 := lives_le (rn l n)
    omega
  have hod : odd l = (-1, 0) := odd_ok hok
  have CS := Lib.hid (fun W (h1 : Lies W (.slice Af first.length cf) first) (h2 : LiesV W (.slice A l.length cp) l) => rstates_b h1 h2 hth had3 hf6)
  have CW := Lib.hid (fun W (h2 : LiesV W (.slice A l.length cp) l) => rwriting_b h2 hth)
  have CT := Lib.hid (fun W (h2 : LiesV W (.slice A l.length cp) l) => rtries_b h2 hwf hsz hod htl)
  have hsig : Hid (sigR first l = (trsF l l.length).map (siR l (wrS l l.length).2 (stS first l (wrS l l.length).2 (wrS l l.length).2.length).2)) := Lib.hid (by unfold sigR; rw [if_neg (by rw [ho2.out]; simp)])
  have hTm := Lib.hid (fun (y : Tr) (hy : y ∈ trsF l l.length) => (show (y.first ≤ y.last + 1) ∧ y.last < l.length from by obtain ⟨a, h1, rfl⟩ := trsF_mem (Nat.le_refl _) y hy; obtain ⟨h2, h3, h4⟩ := tryF_rng h1; omega))
  have hTl : Hid (((trsF l l.length).length + 1) * 80 ≤ 140737488355328) := Lib.hid (by
    rw [trsF_rn]
    have h1 := (inv_rn hwf (Nat.le_refl _) (fun j hj => hok j hj)).two
    have h2 := lives_le (rn l l.length)
    omega)
  have hWn := wrS_len l l.length
  have hLn := (stS_len first l (wrS l l.length).2 (wrS l l.length).2.length).2
  have hLl : Hid (∀ i, i < (stS first l (wrS l l.length).2 (wrS l l.length).2.length).2.length → ((stS first l (wrS l l.length).2 (wrS l l.length).2.length).2.getD i []).length = first.length) := Lib.hid (fun i hi => by rw [List.getD_eq_getElem?_getD, List.getElem?_eq_getElem hi]; exact stS_all _ _ _ _ _ (List.getElem_mem hi))
  generalize hWW : (wrS l l.length).2 = W at *
  generalize hLL : (stS first l W W.length).2 = L at *
  generalize hTT : trsF l l.length = T at *
  replace hWW := Lib.hid hWW
  replace hLL := Lib.hid hLL
  replace hTT := Lib.hid hTT
  replace hLn := Lib.hid hLn
  replace had2 := Lib.hid had2
  clear hev hth had3 htl hod hok hso hf0 hpl hfar hodd hwf
  go_wp2_with fail
  refine (CS.out _ (hF.out.below hb3.out) (hL.out.below hb3.out (Nat.le_refl _))).mono ?_
  rintro _ w4 ⟨hb4, ovS, vs, rfl, hT4⟩
  have hbw4 := Lib.hid (hb3.out.trans (hb4.mono hb3.out.size))
  go_wp2_with fail
  refine (CW.out _ (hL.out.below hbw4.out (Nat.le_refl _))).mono ?_
  rintro _ w5 ⟨hb5, vW, rfl, hS5, ho5⟩
  have hbw5 := Lib.hid (hbw4.out.trans (hb5.mono hbw4.out.size))
  go_wp2_with fail
  refine (CT.out _ (hL.out.below hbw5.out (Nat.le_refl _))).mono ?_
  rintro _ w6 ⟨hb6, vT, rfl, hS6, ho6⟩
  obtain ⟨AW, cW, rfl, -⟩ := hS5.shape
  obtain ⟨AT, cT, rfl, -⟩ := hS6.shape
  obtain ⟨AS, cS, rfl, -⟩ := hT4.sl.shape
  have hbw6 := hbw5.out.trans (hb6.mono hbw5.out.size)
  obtain ⟨w7, hw7⟩ : ∃ w7, w7 = w6.alloc (.cells #[.int .i64 (-1), .int .i64 0] 28) := ⟨_, rfl⟩
  have hE7 : Hid (SiE w.heap.size w7 (.slice AS vs.length cS) vs L (.slice AW W.length cW) W (.slice AT T.length cT) T w.heap.size w2.heap.size (.slice none 0 0) []) := Lib.hid (by
    have k5 : ∀ k, k < w4.heap.size → w6.heap[k]? = w4.heap[k]? := fun k hk => (hb6.block k (Nat.lt_of_lt_of_le hk hb5.size)).trans (hb5.block k hk)
    have h4 := hT4.keep (w' := w7) (fun q _ hq => by rw [hw7, Below.heap_alloc _ _ _ (Nat.lt_of_lt_of_le hq (Nat.le_trans hb5.size hb6.size))]; exact k5 q hq) (fun x _ q _ hq => by rw [hw7, Below.heap_alloc _ _ _ (Nat.lt_of_lt_of_le hq (Nat.le_trans hb5.size hb6.size))]; exact k5 q hq)
    have hR6 := ((hR3.out.below hb4 hR3.out.lt).below hb5 (Nat.lt_of_lt_of_le hR3.out.lt hb4.size)).below hb6 (Nat.lt_of_lt_of_le hR3.out.lt (Nat.le_trans hb4.size hb5.size))
    have hO6 := ((hO3.out.below hb4 hO3.out.lt).below hb5 (Nat.lt_of_lt_of_le hO3.out.lt hb4.size)).below hb6 (Nat.lt_of_lt_of_le hO3.out.lt (Nat.le_trans hb4.size hb5.size))
    exact ⟨h4.mono hb3.out.size, by rw [hw7]; exact (hS5.keep (w' := w6) fun k hk => hb6.block k (hS5.lt k hk)).alloc _, by rw [hw7]; exact hS6.alloc _, by rw [hw7]; exact hR6.alloc _, by rw [hw7]; exact hO6.alloc _, Sl.nil _, fun q hq => absurd hq (no_own_nil q)⟩)
  have hb7 : Hid (Below w.heap.size w w7) := Lib.hid (by rw [hw7]; exact hbw6.alloc hbw6.size _)
  have hTi : (T.length : Int) ≤ 9223372036854775807 := by have := hTl.out; omega
  replace hw7 := Lib.hid hw7
  clear hb4 hT4 hb5 hS5 ho5 hb6 hS6 ho6 hbw4 hbw5 hbw6 CS CW CT hR3 hO3 hb3 x0 x1 hF
  go_wp2
  rw [← hw7.out]
  go_loopw [11, 12] (fun c11 c12 wr => ∃ j : Nat, j ≤ T.length ∧ c12 = .int .i64 (j : Int) ∧ Hid (SiE w.heap.size wr (.slice AS vs.length cS) vs L (.slice AW W.length cW) W (.slice AT T.length cT) T w.heap.size w2.heap.size c11 ((T.take j).map (siR l W L))) ∧ Hid (Below w.heap.size w wr)) (fun _ c12 _ => T.length - (intOf c12).toNat)
  case atStart => exact ⟨0, Nat.zero_le _, rfl, hE7, hb7⟩
  case round =>
    obtain ⟨j, hj, rfl, hE, hbr⟩ := hrel
    clear hE7 hb7
    obtain ⟨AO, cO, hsh, -⟩ := hE.out.out.shape
    have hlj : Hid (((T.take j).map (siR l W L)).length = j) := Lib.hid (by rw [List.length_map, List.length_take, Nat.min_eq_left hj])
    rw [hlj.out] at hsh
    subst hsh
    by_cases hlt : j < T.length
    · have b1 : (j : Int) < T.length := by omega
      have w1 := IntWalk.i64_in (n := (j : Int) + 1) (by omega)
      obtain ⟨gT, oT, rfl, -, cT0⟩ := hE.out.tr.cell encT_len (by decide) hlt
      have d := fun q h => (cT0 j hlt q h).1
      obtain ⟨hy1, hy2⟩ := hTm.out _ (List.getElem_mem hlt)
      have htk : Hid ((T.take (j + 1)).map (siR l W L) = (T.take j).map (siR l W L) ++ [siR l W L T[j]]) := Lib.hid (by rw [List.take_add_one, List.getElem?_eq_getElem hlt, List.map_append]; rfl)
      generalize hyy : T[j] = y at *
      obtain ⟨th, fi, la, sn, ho, rd, wt⟩ := y
      dsimp only at hy1 hy2
      have d0 := d 0 (by decide)
      have d1 := d 1 (by decide)
      have d2 := d 2 (by decide)
      have d3 := d 3 (by decide)
      have d4 := d 4 (by decide)
      have d5 := d 5 (by decide)
      have d6 := d 6 (by decide)
      simp only [encT, List.getElem?_cons_zero, List.getElem?_cons_succ, Nat.add_zero] at d0 d1 d2 d3 d4 d5 d6
      simp only [← Nat.add_assoc] at d1 d2 d3 d4 d5 d6
      have e0 := cell_alloc_ (o := (.cells #[.int .i64 th, .int .i64 fi, .int .i64 la, .int .u64 sn, .int .i64 ho, .int .i64 rd, .int .i64 wt, .int .i64 0, .int .i64 0, .int .i64 (-1)] 40)) d0
      have e1 := cell_alloc_ (o := (.cells #[.int .i64 th, .int .i64 fi, .int .i64 la, .int .u64 sn, .int .i64 ho, .int .i64 rd, .int .i64 wt, .int .i64 0, .int .i64 0, .int .i64 (-1)] 40)) d1
      have e2 := cell_alloc_ (o := (.cells #[.int .i64 th, .int .i64 fi, .int .i64 la, .int .u64 sn, .int .i64 ho, .int .i64 rd, .int .i64 wt, .int .i64 0, .int .i64 0, .int .i64 (-1)] 40)) d2
      have e3 := cell_alloc_ (o := (.cells #[.int .i64 th, .int .i64 fi, .int .i64 la, .int .u64 sn, .int .i64 ho, .int .i64 rd, .int .i64 wt, .int .i64 0, .int .i64 0, .int .i64 (-1)] 40)) d3
      have e4 := cell_alloc_ (o := (.cells #[.int .i64 th, .int .i64 fi, .int .i64 la, .int .u64 sn, .int .i64 ho, .int .i64 rd, .int .i64 wt, .int .i64 0, .int .i64 0, .int .i64 (-1)] 40)) d4
      have e5 := cell_alloc_ (o := (.cells #[.int .i64 th, .int .i64 fi, .int .i64 la, .int .u64 sn, .int .i64 ho, .int .i64 rd, .int .i64 wt, .int .i64 0, .int .i64 0, .int .i64 (-1)] 40)) d5
      have e6 := cell_alloc_ (o := (.cells #[.int .i64 th, .int .i64 fi, .int .i64 la, .int .u64 sn, .int .i64 ho, .int .i64 rd, .int .i64 wt, .int .i64 0, .int .i64 0, .int .i64 (-1)] 40)) d6
      have hbA := (Below.refl wr.heap.size wr).alloc (Nat.le_refl _) (.cells #[.int .i64 th, .int .i64 fi, .int .i64 la, .int .u64 sn, .int .i64 ho, .int .i64 rd, .int .i64 wt, .int .i64 0, .int .i64 0, .int .i64 (-1)] 40)
      have hXA := Blk.new wr 40 #[.int .i64 th, .int .i64 fi, .int .i64 la, .int .u64 sn, .int .i64 ho, .int .i64 rd, .int .i64 wt, .int .i64 0, .int .i64 0, .int .i64 (-1)]
      have CR := Lib.hid (rreads_b (hL.out.below (hbr.out.trans (hbA.mono hbr.out.size)) (Nat.le_refl _)) th sn ho rd wt fi la hy1 hy2)
      replace hbA := Lib.hid hbA
      replace hXA := Lib.hid hXA
      replace hyy := Lib.hid hyy
      clear cT0 d
      go_wp2_with fail
      refine CR.out.mono ?_
      rintro _ w8 ⟨hb8, ov8, rfl, hS8, ho8⟩
      obtain ⟨A8, c8, rfl, -⟩ := hS8.shape
      have hX8 := Lib.hid (hXA.out.below hb8 hXA.out.lt)
      have hb9 := Lib.hid (hbA.out.trans (hb8.mono hbA.out.size))
      have hwl8 := rdF_len l th fi (la + 1 - fi)
      have hwm : Hid (∀ p ∈ rdF l th fi (la + 1 - fi), 0 ≤ p.1 ∧ p.1 < (first.length : Int)) := Lib.hid fun p hp => by
        obtain ⟨k, h1, h2, h3⟩ := rdF_mem p hp
        rw [h3]
        exact had2.out (fi + k) (by omega) h2
      have hsw : Hid (∀ q, own (.slice A8 (rdF l th fi (la + 1 - fi)).length c8) q → wr.heap.size < q) := Lib.hid fun q hq => by have := ho8 q hq; rw [World.size_alloc] at this; omega
      have hsiR : Hid (siR l W L ⟨th, fi, la, sn, ho, rd, wt⟩ = (⟨⟨th, fi, la, sn, ho, rd, wt⟩, rdF l th fi (la + 1 - fi), W.countP (fun c => decide (c < fi)), W.countP (fun c => decide (c ≤ la))⟩, atR L (rdF l th fi (la + 1 - fi)) (W.countP (fun c => decide (c < fi))) (W.countP (fun c => decide (c ≤ la)) + 1 - W.countP (fun c => decide (c < fi))))) := Lib.hid rfl
      replace hS8 := Lib.hid hS8
      generalize rdF l th fi (la + 1 - fi) = words at *
      obtain ⟨wq, hwq⟩ : ∃ wq : World, wq = wr := ⟨_, rfl⟩
      subst hwq
      have hgT := hE.out.tr.lt gT (by simp [own, Value.ownBlock])
      have DT : Hid (∀ W', Below wq.heap.size wq W' → W'.cell? ⟨gT, oT + j * 7 + 1, none⟩ = some (.int .i64 fi) ∧ W'.cell? ⟨gT, oT + j * 7 + 2, none⟩ = some (.int .i64 la)) := Lib.hid fun W' hb => ⟨(hb.cell (p := ⟨gT, oT + j * 7 + 1, none⟩) hgT).trans d1, (hb.cell (p := ⟨gT, oT + j * 7 + 2, none⟩) hgT).trans d2⟩
      have hfi : (fi : Int) ≤ 9223372036854775807 := by omega
      have hWi : (W.length : Int) ≤ 9223372036854775807 := by omega
      clear hb8 ho8 CR hXA hbA e0 e1 e2 e3 e4 e5 e6 d0 d1 d2 d3 d4 d5 d6 hgT
      go_wp2
      go_loopw [15] (fun c15 wr => ∃ m : Nat, m ≤ W.length ∧ c15 = .int .i64 (m : Int) ∧ Hid (Blk wr wq.heap.size 40 #[.int .i64 th, .int .i64 fi, .int .i64 la, .int .u64 sn, .int .i64 ho, .int .i64 rd, .int .i64 wt, .int .i64 (((W.take m).countP (fun c => decide (c < fi)) : Nat) : Int), .int .i64 (((W.take m).countP (fun c => decide (c ≤ la)) : Nat) : Int), .int .i64 (-1)]) ∧ Hid (Fr (fun q => q = wq.heap.size) w8 (fun q => q = wq.heap.size) wr)) (fun c15 _ => W.length - (intOf c15).toNat)
      case atStart => exact ⟨0, Nat.zero_le _, rfl, hX8, Lib.hid (Fr.refl _ _)⟩
      case round =>
        obtain ⟨m, hm, rfl, hB, hFr⟩ := hrel
        have hbn := hb9.out.trans (hFr.out.below (B := wq.heap.size) (fun q e => Nat.le_of_eq e.symm) hb9.out.size)
        by_cases hml : m < W.length
        · have bm : (m : Int) < W.length := by omega
          have wm := IntWalk.i64_in (n := (m : Int) + 1) (by omega)
          obtain ⟨gW, oW, rfl, hgW, cW0⟩ := hE.out.wi.cell encI_len (by decide) hml
          have k0 := (hbn.cell (p := ⟨gW, oW + (m * 1 + 0), none⟩) hgW).trans (cW0 m hml 0 (by decide)).1
          simp only [encI, List.getElem?_cons_zero, Nat.add_zero, Nat.mul_one] at k0
          obtain ⟨dt1, dt2⟩ := DT.out wr hbn
          have hcf : Hid ((W.take (m + 1)).countP (fun c => decide (c < fi)) = (W.take m).countP (fun c => decide (c < fi)) + if W[m] < fi then 1 else 0) := Lib.hid (by rw [List.take_add_one, List.getElem?_eq_getElem hml, List.countP_append]; simp [List.countP_cons])
          have hcu : Hid ((W.take (m + 1)).countP (fun c => decide (c ≤ la)) = (W.take m).countP (fun c => decide (c ≤ la)) + if W[m] ≤ la then 1 else 0) := Lib.hid (by rw [List.take_add_one, List.getElem?_eq_getElem hml, List.countP_append]; simp [List.countP_cons])
          have hl7 := List.countP_le_length (p := fun c => decide (c < fi)) (l := W.take m)
          have hl8 := List.countP_le_length (p := fun c => decide (c ≤ la)) (l := W.take m)
          rw [List.length_take] at hl7 hl8
          generalize (W.take m).countP (fun c => decide (c < fi)) = a7 at *
          generalize (W.take m).countP (fun c => decide (c ≤ la)) = a8 at *
          generalize W[m] = c at *
          have w7' := IntWalk.i64_in (n := (a7 : Int) + 1) (by omega)
          have w8' := IntWalk.i64_in (n := (a8 : Int) + 1) (by omega)
          have x7 := (hB.out.cell 7).trans (show _ = some (.int .i64 (a7 : Int)) from rfl)
          have x8 := (hB.out.cell 8).trans (show _ = some (.int .i64 (a8 : Int)) from rfl)
          have z7 := hB.out.frozen 7
          have z8 := hB.out.frozen 8
          have hneT : gT ≠ wq.heap.size := Nat.ne_of_lt (hE.out.tr.lt gT (by simp [own, Value.ownBlock]))
          have hneW : gW ≠ wq.heap.size := Nat.ne_of_lt hgW
          clear hbn cW0
          by_cases q1 : c < fi
          · have q1' : (c : Int) < (fi : Int) := by omega
            rw [if_pos q1] at hcf
            by_cases q2 : c ≤ la
            · have q2' : (c : Int) ≤ (la : Int) := by omega
              rw [if_pos q2] at hcu
              go_wp2
              go_quiet (fail)
              go_wp2
              go_quiet (fail)
              go_wp2
              go_roundw
              case rel => first | (exact ⟨m + 1, hml, by go_num, Lib.hid (Blk.cast ((((((hB.out.drewN _).set_ 7 (.int .i64 ((a7 : Int) + 1)))).drewN _).set_ 8 (.int .i64 ((a8 : Int) + 1)))) (by rw [hcf.out, hcu.out]; simp)), Lib.hid ((((((hFr.out.drewN _).set (p := ⟨wq.heap.size, 7, none⟩) (.inl rfl) (.int .i64 ((a7 : Int) + 1)))).drewN _).set (p := ⟨wq.heap.size, 8, none⟩) (.inl rfl) (.int .i64 ((a8 : Int) + 1))))⟩) | (exact ⟨m + 1, hml, by go_num, Lib.hid (Blk.cast ((((((hB.out.drewN _).set_ 7 (.int .i64 ((a7 : Int) + 1)))).drewN _).set_ 8 (.int .i64 ((a8 : Int) + 1)))) (by rw [hcf.out, hcu.out]; simp)), Lib.hid ((((((hFr.out.drewN _).set (p := ⟨wq.heap.size, 7, none⟩) (.inl rfl) (.int .i64 ((a7 : Int) + 1)))).drewN _).set (p := ⟨wq.heap.size, 8, none⟩) (.inl rfl) (.int .i64 ((a8 : Int) + 1))))⟩)
              case measure => simp [intOf]; omega
            · omega
          · have q1' : ¬ (c : Int) < (fi : Int) := by omega
            rw [if_neg q1] at hcf
            by_cases q2 : c ≤ la
            · have q2' : (c : Int) ≤ (la : Int) := by omega
              rw [if_pos q2] at hcu
              go_wp2
              go_quiet (fail)
              go_wp2
              go_quiet (fail)
              go_wp2
              go_roundw
              case rel => first | (exact ⟨m + 1, hml, by go_num, Lib.hid (Blk.cast (((hB.out.drewN _).set_ 8 (.int .i64 ((a8 : Int) + 1)))) (by rw [hcf.out, hcu.out]; simp)), Lib.hid (((hFr.out.drewN _).set (p := ⟨wq.heap.size, 8, none⟩) (.inl rfl) (.int .i64 ((a8 : Int) + 1))))⟩) | (exact ⟨m + 1, hml, by go_num, Lib.hid (Blk.cast ((((hB.out.drewN _).drewN _).set_ 8 (.int .i64 ((a8 : Int) + 1)))) (by rw [hcf.out, hcu.out]; simp)), Lib.hid ((((hFr.out.drewN _).drewN _).set (p := ⟨wq.heap.size, 8, none⟩) (.inl rfl) (.int .i64 ((a8 : Int) + 1))))⟩)
              case measure => simp [intOf]; omega
            · have q2' : ¬ (c : Int) ≤ (la : Int) := by omega
              rw [if_neg q2] at hcu
              go_wp2
              go_quiet (fail)
              go_wp2
              go_quiet (fail)
              go_wp2
              go_roundw
              case rel => first | (exact ⟨m + 1, hml, by go_num, Lib.hid (Blk.cast (hB.out.drewN _) (by rw [hcf.out, hcu.out]; simp)), Lib.hid (hFr.out.drewN _)⟩) | (exact ⟨m + 1, hml, by go_num, Lib.hid (Blk.cast ((hB.out.drewN _).drewN _) (by rw [hcf.out, hcu.out]; simp)), Lib.hid ((hFr.out.drewN _).drewN _)⟩)
              case measure => simp [intOf]; omega
        · have hm2 : m = W.length := by omega
          subst hm2
          rw [List.take_length] at hB
          have hfu := List.countP_le_length (p := fun c => decide (c < fi)) (l := W)
          have huu := List.countP_le_length (p := fun c => decide (c ≤ la)) (l := W)
          generalize W.countP (fun c => decide (c < fi)) = fr at *
          generalize W.countP (fun c => decide (c ≤ la)) = up at *
          have x7 := (hB.out.cell 7).trans (show _ = some (.int .i64 (fr : Int)) from rfl)
          clear hX8 DT hbn
          obtain ⟨wp, hwp⟩ : ∃ wp : World, wp = wr := ⟨_, rfl⟩
          subst hwp
          go_wp2
          go_loopw [16] (fun c16 wr => ∃ n : Nat, n ≤ up + 1 - fr ∧ c16 = .int .i64 ((fr + n : Nat) : Int) ∧ Hid (Blk wr wq.heap.size 40 #[.int .i64 th, .int .i64 fi, .int .i64 la, .int .u64 sn, .int .i64 ho, .int .i64 rd, .int .i64 wt, .int .i64 (fr : Int), .int .i64 (up : Int), .int .i64 (atR L words fr n)]) ∧ Hid (Fr (fun q => q = wq.heap.size) w8 (fun q => q = wq.heap.size) wr)) (fun c16 _ => up + 1 - (intOf c16).toNat)
          case atStart => exact ⟨0, Nat.zero_le _, rfl, hB, hFr⟩
          case round =>
            obtain ⟨n, hn, rfl, hB, hFr⟩ := hrel
            have hbn := hb9.out.trans (hFr.out.below (B := wq.heap.size) (fun q e => Nat.le_of_eq e.symm) hb9.out.size)
            have x8 := (hB.out.cell 8).trans (show _ = some (.int .i64 (up : Int)) from rfl)
            by_cases hnl : n < up + 1 - fr
            · have bm : ((fr + n : Nat) : Int) ≤ (up : Int) := by omega
              have bm0 : (0 : Int) ≤ ((fr + n : Nat) : Int) := by omega
              have wm := IntWalk.i64_in (n := ((fr + n : Nat) : Int) + 1) (by omega)
              have hEn := hE.out.below hbn
              have hvl : fr + n < vs.length := by rw [hEn.st.len, hLn.out]; omega
              have bv : ((fr + n : Nat) : Int) < vs.length := by omega
              obtain ⟨gS, oS, rfl, -, cS0⟩ := hEn.st.sl.cell encW_len (by decide) hvl
              have k0 := (cS0 (fr + n) hvl 0 (by decide)).1
              simp only [encW, List.getElem?_cons_zero, Nat.add_zero, Nat.mul_one] at k0
              have hLs := (hEn.st.at_ (fr + n) hvl).lies
              unfold headV at hLs
              have hlL := hLl.out (fr + n) (by rw [← hEn.st.len]; exact hvl)
              have hau : Hid (atR L words fr (n + 1) = if stoodR (L.getD (fr + n) []) words = true then ((fr + n : Nat) : Int) else atR L words fr n) := Lib.hid rfl
              have hS9 := hS8.out.fr hFr.out (fun q h1 h2 => by have := hsw.out q h1; omega)
              have ST := Lib.hid (rstood_b hLs hS9 (by rw [hlL]; omega) (by omega) (by rw [hlL]; exact hwm.out))
              generalize vs[fr + n] = xv at *
              obtain ⟨xv1, xv2, xv3⟩ := xv
              dsimp only at k0 ST
              obtain ⟨b, hb⟩ : ∃ b, stoodR (L.getD (fr + n) []) words = b := ⟨_, rfl⟩
              rw [hb] at ST hau
              replace hb := Lib.hid hb
              have z9 := hB.out.frozen 9
              have x9 := (hB.out.cell 9).trans (show _ = some (.int .i64 (atR L words fr n)) from rfl)
              clear hEn hLs hlL hS9 cS0 hbn
              generalize hm' : fr + n = m at *
              replace hm' := Lib.hid hm'
              cases b with
              | true =>
                rw [if_pos rfl] at hau
                go_wp2_with fail
                refine ST.out.mono ?_
                rintro _ _ ⟨rfl, n1, rfl⟩
                go_wp2
                go_roundw
                case rel => exact ⟨n + 1, by have := hm'.out; omega, by have := hm'.out; go_num, Lib.hid (Blk.cast ((hB.out.drewN _).set_ 9 (.int .i64 (m : Int))) (by rw [hau.out]; simp)), Lib.hid ((hFr.out.drewN _).set (p := ⟨wq.heap.size, 9, none⟩) (.inl rfl) (.int .i64 (m : Int)))⟩
                case measure => have := hm'.out; simp [intOf]; omega
              | false =>
                rw [if_neg (by simp)] at hau
                go_wp2_with fail
                refine ST.out.mono ?_
                rintro _ _ ⟨rfl, n1, rfl⟩
                go_wp2
                go_roundw
                case rel => exact ⟨n + 1, by have := hm'.out; omega, by have := hm'.out; go_num, Lib.hid (by rw [hau.out]; exact hB.out.drewN _), Lib.hid (hFr.out.drewN _)⟩
                case measure => have := hm'.out; simp [intOf]; omega
            · have hn2 : n = up + 1 - fr := by omega
              have bm : ¬ ((fr + n : Nat) : Int) ≤ (up : Int) := by omega
              subst hn2
              have hEn := hE.out.below hbn
              have hbr2 := hbr.out.trans (hbn.mono hbr.out.size)
              obtain ⟨at_, hat⟩ : ∃ z, atR L words fr (up + 1 - fr) = z := ⟨_, rfl⟩
              rw [hat] at hB hsiR
              generalize hm' : fr + (up + 1 - fr) = m at *
              replace hm' := Lib.hid hm'
              replace hat := Lib.hid hat
              have y0 := (hB.out.cell 0).trans (show _ = some (.int .i64 th) from rfl)
              have y1 := (hB.out.cell 1).trans (show _ = some (.int .i64 fi) from rfl)
              have y2 := (hB.out.cell 2).trans (show _ = some (.int .i64 la) from rfl)
              have y3 := (hB.out.cell 3).trans (show _ = some (.int .u64 sn) from rfl)
              have y4 := (hB.out.cell 4).trans (show _ = some (.int .i64 ho) from rfl)
              have y5 := (hB.out.cell 5).trans (show _ = some (.int .i64 rd) from rfl)
              have y6 := (hB.out.cell 6).trans (show _ = some (.int .i64 wt) from rfl)
              have y7 := (hB.out.cell 7).trans (show _ = some (.int .i64 (fr : Int)) from rfl)
              have y8 := (hB.out.cell 8).trans (show _ = some (.int .i64 (up : Int)) from rfl)
              have y9 := (hB.out.cell 9).trans (show _ = some (.int .i64 at_) from rfl)
              have hrl : Hid ((j + 1) * 80 ≤ 140737488355328) := Lib.hid (by have := hTl.out; omega)
              generalize hres : (T.take j).map (siR l W L) = res at *
              replace hres := Lib.hid hres
              have FIN : Hid (∀ A5 cap5 w5, Sl 40 10 encG w5 (.slice A5 (j + 1) cap5) (res ++ [((⟨⟨th, fi, la, sn, ho, rd, wt⟩, words, fr, up⟩ : Sg), at_)]) → Fr (own (.slice AO j cO)) wr (own (.slice A5 (j + 1) cap5)) w5 →
                  SiE w.heap.size w5 (.slice AS vs.length cS) vs L (.slice AW W.length cW) W (.slice (some ⟨gT, oT, none⟩) T.length cT) T w.heap.size w2.heap.size (.slice A5 (j + 1) cap5) ((T.take (j + 1)).map (siR l W L)) ∧ Below w.heap.size w w5) := Lib.hid fun A5 cap5 w5 hS5 hF5 =>
                ⟨by rw [htk.out, hsiR.out]; exact hEn.snoc hS5 hF5 hbr2.size, hbr2.trans (hF5.below hEn.own hbr2.size)⟩
              have hSo := Lib.hid hEn.out
              clear hEn hbr2 hbn hB hFr hE hbr x8
              go_wp2_with (at_builtin; refine wpList_gON wr rfl (.tmp 101) (.tmp 103) rfl (.slice AO j cO) res ((⟨⟨th, fi, la, sn, ho, rd, wt⟩, words, fr, up⟩ : Sg), at_) j hlj.out rfl hSo.out rfl hrl.out ?_; intro A5 cap5 w5 hS5 hF5; have FN := Lib.hid (FIN.out A5 cap5 w5 hS5 hF5); clear hS5 hF5)
              go_roundw
              case rel => exact ⟨j + 1, hlt, by go_num, Lib.hid FN.out.1, Lib.hid FN.out.2⟩
              case measure => simp [intOf]; omega
    · have hj2 : j = T.length := by omega
      subst hj2
      rw [List.take_length] at hE
      have hEo := hE.out.out
      rw [← hsig.out] at hEo
      have hR := Lib.hid hE.out.r
      have hO := hE.out.o
      have x0 := (hO.cell 0).trans (show _ = some (.int .i64 (-1)) from rfl)
      have x1 := (hO.cell 1).trans (show _ = some (.int .i64 0) from rfl)
      have r0 := (hR.out.cell 0).trans (show _ = some (.int .i64 0) from rfl)
      have r1 := (hR.out.cell 1).trans (show _ = some (.int .i64 0) from rfl)
      have f0 := hR.out.frozen 0
      have f1 := hR.out.frozen 1
      have hS9 := Lib.hid (fun j jj => ((hEo.drewN j).set (p := ⟨w.heap.size, 0, none⟩) (hEo.ne_ hR.out (by decide)) (.int .i64 (-1))).set (p := ⟨w.heap.size, 1, none⟩) (hEo.ne_ hR.out (by decide)) (.int .i64 0) |>.drewN jj)
      have hb9 := Lib.hid (fun j jj => below_drewNs (((below_drewNs hbr.out j).setCell (p := ⟨w.heap.size, 0, none⟩) (Nat.le_refl _) (.int .i64 (-1))).setCell (p := ⟨w.heap.size, 1, none⟩) (Nat.le_refl _) (.int .i64 0)) jj)
      have hown := Lib.hid hE.out.own
      clear hE hbr hO hEo hR
      go_wp2
      refine wp_region_mixH (fun _ => True) [3, 1, 3, 2] (List.range 4) (by kernel_rfl) (by kernel_rfl) (fun _ _ h => h) trivial ?_
      (repeat ((first | refine wpMixH_pure rfl rfl (fun K hK => ?_) | refine wpMixH_loc rfl rfl (fun K hK => ?_) | refine wpMixH_any rfl rfl (fun K hK => ?_)); go_simp; refine hK _ _ ?_; clear hK K))
      refine wpMixH_loud rfl rfl (fun n1 K hK => ?_)
      go_wp2
      refine hK _ _ (fun _ => trivial) ?_; clear hK K
      refine wpMixH_nil (fun n2 => ?_)
      go_wp2
      refine bodyPost_ret (v := .tuple #[.slice AO T.length cO, .agg #[.int .i64 (-1), .int .i64 0]]) (by simp [results, Try.results10, go_sem, r0, r1, f0, f1]) rfl ⟨hb9.out _ _, _, rfl, hS9.out _ _, hown.out⟩
end Go.Proofs.Ytloiadhdkgkjkaa
/- The document's answer for chapter 16: Check and SameSights by contract. -/
namespace Go.Proofs.Ytloiadhdkgkjkaa
open Go.RowKit
set_option maxHeartbeats 40000000
set_option linter.unusedVariables false
set_option linter.unusedSimpArgs false
def chkR (first : List Int) (l : List Ev) : Int := if (seeOdd first.length l).2 ≠ 0 then 0 else idxG (sigR first l)
theorem sigR_len (first : List Int) (l : List Ev) : (sigR first l).length ≤ l.length := by
  unfold sigR
  split
  · simp
  · rw [List.length_map]; exact trsF_len l l.length
set_option maxRecDepth 100000 in
theorem rcheck16_b {w : World} {Fv : Value} {A : Option Addr} {cp : Nat} {first : List Int} {l : List Ev} (hF : Lies w Fv first) (hL : LiesV w (.slice A l.length cp) l) (hwf : ∀ e ∈ l, EvWf e) (hsz : l.length * 48 + 480 ≤ 140737488355328) (hfl : first.length ≤ 9223372036854775807) :
    Calls Try.prog 11 #[Fv, .slice A l.length cp] w fun x w' => Below w.heap.size w w' ∧ x = .returned (.tuple #[.int .i64 (chkR first l), .agg #[.int .i64 (seeOdd first.length l).1, .int .i64 (seeOdd first.length l).2]]) := by
  obtain ⟨Af, cf, rfl, -⟩ := (show ∃ A cp, Fv = .slice A first.length cp ∧ True from by obtain ⟨A, cp, h1, _⟩ := hF; exact ⟨A, cp, h1, trivial⟩)
  have hR1 := Blk.new w 28 #[.int .i64 0, .int .i64 0]
  have hb1 := (Below.refl w.heap.size w).alloc (Nat.le_refl _) (.cells #[.int .i64 0, .int .i64 0] 28)
  have C1 := Lib.hid (rsights_b (hF.below hb1) (hL.below hb1 (Nat.le_refl _)) hwf hsz hfl)
  have hsl := sigR_len first l
  obtain ⟨o1, ho1⟩ : ∃ o1, (seeOdd first.length l).1 = o1 := ⟨_, rfl⟩
  obtain ⟨o2, ho2⟩ : ∃ o2, (seeOdd first.length l).2 = o2 := ⟨_, rfl⟩
  obtain ⟨r, hr⟩ : ∃ r, chkR first l = r := ⟨_, rfl⟩
  rw [ho1, ho2] at C1 ⊢
  rw [hr]
  have hr2 : Hid (r = if o2 ≠ 0 then 0 else idxG (sigR first l)) := Lib.hid (by rw [← hr, ← ho2]; rfl)
  generalize sigR first l = L at *
  have hLi : (L.length : Int) ≤ 9223372036854775807 := by omega
  replace ho1 := Lib.hid ho1
  replace ho2 := Lib.hid ho2
  replace hr := Lib.hid hr
  replace hR1 := Lib.hid hR1
  replace hb1 := Lib.hid hb1
  clear hL hF hwf hsl
  go_enter Try.func11, Try.ntmps11
  go_wp2_with fail
  refine C1.out.mono ?_
  rintro _ w2 ⟨hb2, ov, rfl, hS2, ho2'⟩
  obtain ⟨AO, cO, rfl, -⟩ := hS2.shape
  have hR2 := hR1.out.below hb2 hR1.out.lt
  have hbw2 := hb1.out.trans (hb2.mono hb1.out.size)
  obtain ⟨w3, hw3⟩ : ∃ w3, w3 = w2.alloc (.cells #[.int .i64 o1, .int .i64 o2] 28) := ⟨_, rfl⟩
  have hR3 : Blk w3 w.heap.size 28 #[.int .i64 0, .int .i64 0] := by rw [hw3]; exact hR2.alloc _
  have hO3 : Blk w3 w2.heap.size 28 #[.int .i64 o1, .int .i64 o2] := by rw [hw3]; exact Blk.new _ _ _
  have hS3 : Hid (Sl 40 10 encG w3 (.slice AO L.length cO) L) := Lib.hid (by rw [hw3]; exact hS2.alloc _)
  have hb3 : Hid (Below w.heap.size w w3) := Lib.hid (by rw [hw3]; exact hbw2.alloc hbw2.size _)
  have hne : w.heap.size ≠ w2.heap.size := Nat.ne_of_lt hR2.lt
  have x0 := (hO3.cell 0).trans (show _ = some (.int .i64 o1) from rfl)
  have x1 := (hO3.cell 1).trans (show _ = some (.int .i64 o2) from rfl)
  have r0 := (hR3.cell 0).trans (show _ = some (.int .i64 0) from rfl)
  have r1 := (hR3.cell 1).trans (show _ = some (.int .i64 0) from rfl)
  have f0 := hR3.frozen 0
  have f1 := hR3.frozen 1
  subst hw3
  clear hb2 hR2 hbw2 C1 hb1 hR1 hS2 ho2' hR3 hO3
  by_cases hz : o2 = 0
  case neg =>
    have hz1 : (o2 != 0) = true := by simpa using hz
    rw [if_pos hz] at hr2
    replace hz := Lib.hid hz
    go_wp2
    refine wp_region_mixH (fun _ => True) [1, 3, 2] (List.range 3) (by kernel_rfl) (by kernel_rfl) (fun _ _ h => h) trivial ?_
    (repeat ((first | refine wpMixH_pure rfl rfl (fun K hK => ?_) | refine wpMixH_loc rfl rfl (fun K hK => ?_) | refine wpMixH_any rfl rfl (fun K hK => ?_)); go_simp; refine hK _ _ ?_; clear hK K))
    refine wpMixH_loud rfl rfl (fun n1 K hK => ?_)
    go_wp2
    refine hK _ _ (fun _ => trivial) ?_; clear hK K
    refine wpMixH_nil (fun n2 => ?_)
    go_wp2
    refine bodyPost_ret (v := .tuple #[.int .i64 0, .agg #[.int .i64 o1, .int .i64 o2]]) (by simp [results, Try.results11, go_sem, r0, r1, f0, f1]) rfl ⟨below_drewNs (((below_drewNs hb3.out _).setCell (Nat.le_refl _) _).setCell (Nat.le_refl _) _) _, by rw [hr2.out]⟩
  rw [if_neg (by simpa using hz)] at hr2
  subst hz
  go_wp2_with fail
  go_loopw [8] (fun c wr => ∃ k : Nat, k ≤ L.length ∧ c = .int .i64 (k : Int) ∧ wr = (w2.alloc (.cells #[.int .i64 o1, .int .i64 0] 28)) ∧ Hid (∀ j (hj : j < L.length), j < k → decide ((L[j]'hj).2 < 0) = false)) (fun c _ => L.length - (intOf c).toNat)
  case atStart => exact ⟨0, Nat.zero_le _, rfl, rfl, Lib.hid fun j hj h => by omega⟩
  case round =>
    obtain ⟨k, hk, rfl, rfl, hall⟩ := hrel
    by_cases hlt : k < L.length
    · have b1 : (k : Int) < L.length := by omega
      have w1 := IntWalk.i64_in (n := (k : Int) + 1) (by omega)
      obtain ⟨g, o, rfl, hg, hc⟩ := hS3.out.cell encG_len (by decide) hlt
      have d9 := (hc k hlt 9 (by decide)).1.trans (show _ = some (.int .i64 (L[k]'hlt).2) from rfl)
      rw [← Nat.add_assoc] at d9
      obtain ⟨z, hzz⟩ : ∃ z, (L[k]'hlt).2 = z := ⟨_, rfl⟩
      rw [hzz] at d9
      clear hc
      by_cases h0 : z < 0
      · have hi : Hid (r = (k : Int)) := Lib.hid (by rw [hr2.out]; exact idxG_some hlt (by rw [hzz]; exact decide_eq_true h0) fun j hj => hall.out j (by omega) hj)
        replace hzz := Lib.hid hzz
        go_wp2
        refine wp_region_mixH (fun _ => True) [3, 1, 3, 2] (List.range 4) (by kernel_rfl) (by kernel_rfl) (fun _ _ h => h) trivial ?_
        (repeat ((first | refine wpMixH_pure rfl rfl (fun K hK => ?_) | refine wpMixH_loc rfl rfl (fun K hK => ?_) | refine wpMixH_any rfl rfl (fun K hK => ?_)); go_simp; refine hK _ _ ?_; clear hK K))
        refine wpMixH_loud rfl rfl (fun n1 K hK => ?_)
        go_wp2
        refine hK _ _ (fun _ => trivial) ?_; clear hK K
        refine wpMixH_nil (fun n2 => ?_)
        go_wp2
        refine bodyPost_ret (v := .tuple #[.int .i64 k, .agg #[.int .i64 o1, .int .i64 0]]) (by simp [results, Try.results11, go_sem, r0, r1, f0, f1]) rfl ⟨below_drewNs (((below_drewNs hb3.out _).setCell (Nat.le_refl _) _).setCell (Nat.le_refl _) _) _, by rw [hi.out]⟩
      · replace hzz := Lib.hid hzz
        go_wp2
        go_roundw
        case rel => exact ⟨k + 1, hlt, by go_num, by trivial, Lib.hid fun j hj h => by
          by_cases e : j = k
          · subst e; rw [hzz.out]; exact decide_eq_false h0
          · exact hall.out j hj (by omega)⟩
        case measure => simp [intOf]; omega
    · have hi : Hid (r = -1) := Lib.hid (by rw [hr2.out]; exact idxG_none fun j hj => hall.out j hj (by omega))
      have b1 : ¬ (k : Int) < L.length := by omega
      clear hall
      go_wp2
      refine wp_region_mixH (fun _ => True) [1, 3, 2] (List.range 3) (by kernel_rfl) (by kernel_rfl) (fun _ _ h => h) trivial ?_
      (repeat ((first | refine wpMixH_pure rfl rfl (fun K hK => ?_) | refine wpMixH_loc rfl rfl (fun K hK => ?_) | refine wpMixH_any rfl rfl (fun K hK => ?_)); go_simp; refine hK _ _ ?_; clear hK K))
      refine wpMixH_loud rfl rfl (fun n1 K hK => ?_)
      go_wp2
      refine hK _ _ (fun _ => trivial) ?_; clear hK K
      refine wpMixH_nil (fun n2 => ?_)
      go_wp2
      refine bodyPost_ret (v := .tuple #[.int .i64 (-1), .agg #[.int .i64 o1, .int .i64 0]]) (by simp [results, Try.results11, go_sem, r0, r1, f0, f1]) rfl ⟨below_drewNs (((below_drewNs hb3.out _).setCell (Nat.le_refl _) _).setCell (Nat.le_refl _) _) _, by rw [hi.out]⟩
end Go.Proofs.Ytloiadhdkgkjkaa
/- Two lists of sights that are the same: SameSights by contract. -/
namespace Go.Proofs.Ytloiadhdkgkjkaa
open Go.RowKit
set_option maxHeartbeats 40000000
set_option linter.unusedVariables false
set_option linter.unusedSimpArgs false
theorem try_equal (d : Nat) (a b c e f g h : Int) (w : World) : (Op.equalIn (d + 1 + 1) 38 (.agg #[.int .i64 a, .int .i64 b, .int .i64 c, .int .u64 e, .int .i64 f, .int .i64 g, .int .i64 h]) (.agg #[.int .i64 a, .int .i64 b, .int .i64 c, .int .u64 e, .int .i64 f, .int .i64 g, .int .i64 h])).run Try.prog w = .ok true w := by
  have h1 : Try.prog.underlying 38 = some _ := Try.underlying38
  have hi : ∀ (t : TypeId) (n m : Int) (k : IntKind) (d : Nat), Try.prog.underlying t = some (TypeDesc.int k) → (Op.equalIn (d + 1) t (.int k n) (.int k m)).run Try.prog w = .ok (n == m) w := fun t n m k d ht => run_equalIn_int w d t k k n m ht
  have hsi : Try.prog.stoodInHeld 38 = false := by kernel_rfl
  have u1 : Try.prog.underlying 3 = some _ := Try.underlying3
  have u3 : Try.prog.underlying 35 = some _ := Try.underlying35
  have u5 : Try.prog.underlying 36 = some _ := Try.underlying36
  have c1 : Try.prog.cellsOf 3 = 1 := by kernel_rfl
  have c3 : Try.prog.cellsOf 35 = 1 := by kernel_rfl
  have c5 : Try.prog.cellsOf 36 = 1 := by kernel_rfl
  rw [Op.equalIn]
  simp [run_underlying h1, part, hi, u1, u3, u5, c1, c3, c5, hsi, sizeOf, typeInfo]
theorem sight_equal (a b c e f g h i j k : Int) (w : World) : (Op.equalIn 10000 40 (.agg #[.int .i64 a, .int .i64 b, .int .i64 c, .int .u64 e, .int .i64 f, .int .i64 g, .int .i64 h, .int .i64 i, .int .i64 j, .int .i64 k]) (.agg #[.int .i64 a, .int .i64 b, .int .i64 c, .int .u64 e, .int .i64 f, .int .i64 g, .int .i64 h, .int .i64 i, .int .i64 j, .int .i64 k])).run Try.prog w = .ok true w := by
  have h1 : Try.prog.underlying 40 = some _ := Try.underlying40
  have hi : ∀ (t : TypeId) (n m : Int) (k : IntKind) (d : Nat), Try.prog.underlying t = some (TypeDesc.int k) → (Op.equalIn (d + 1) t (.int k n) (.int k m)).run Try.prog w = .ok (n == m) w := fun t n m k d ht => run_equalIn_int w d t k k n m ht
  have hsi : Try.prog.stoodInHeld 40 = false := by kernel_rfl
  have ht := fun d => try_equal d a b c e f g h w
  have u1 : Try.prog.underlying 3 = some _ := Try.underlying3
  have c1 : Try.prog.cellsOf 3 = 1 := by kernel_rfl
  have c7 : Try.prog.cellsOf 38 = 7 := by kernel_rfl
  obtain ⟨i0, hi0, hz0, hz1, hz2⟩ := info_parts try_info
  have hd : 10000 = 9997 + 1 + 1 + 1 := rfl
  rw [hd]
  generalize 9997 = d at *
  rw [Op.equalIn]
  simp [run_underlying h1, part, hi, ht, u1, c1, c7, hsi, sizeOf, typeInfo, hi0, hz1]
theorem sight_neq (a b c e f g h i j k : Int) (w : World) : (binOp .neq 40 (.agg #[.int .i64 a, .int .i64 b, .int .i64 c, .int .u64 e, .int .i64 f, .int .i64 g, .int .i64 h, .int .i64 i, .int .i64 j, .int .i64 k]) (.agg #[.int .i64 a, .int .i64 b, .int .i64 c, .int .u64 e, .int .i64 f, .int .i64 g, .int .i64 h, .int .i64 i, .int .i64 j, .int .i64 k])).run Try.prog w = .ok (.bool false) w := by
  rw [run_neq_struct (P := Try.prog) w 40 #[.int .i64 a, .int .i64 b, .int .i64 c, .int .u64 e, .int .i64 f, .int .i64 g, .int .i64 h, .int .i64 i, .int .i64 j, .int .i64 k] #[.int .i64 a, .int .i64 b, .int .i64 c, .int .u64 e, .int .i64 f, .int .i64 g, .int .i64 h, .int .i64 i, .int .i64 j, .int .i64 k], sight_equal]
  rfl
set_option maxRecDepth 100000 in
theorem rsameS_b {w : World} {va vb : Value} {l : List (Sg × Int)} (h1 : Sl 40 10 encG w va l) (h2 : Sl 40 10 encG w vb l) (hlen : (l.length : Int) ≤ 9223372036854775807) :
    Calls Try.prog 12 #[va, vb] w fun x w' => x = .returned (.bool true) ∧ ∃ n, w' = w.drewN n := by
  obtain ⟨A1, c1, rfl, -⟩ := h1.shape
  obtain ⟨A2, c2, rfl, -⟩ := h2.shape
  have hq := sight_neq
  go_enter Try.func12, Try.ntmps12
  go_wp2
  go_loopg [5] l.length (fun gk c5 wr => ∃ j nd : Nat, gk + j = l.length ∧ c5 = .int .i64 (j : Int) ∧ wr = w.drewN nd)
  case atStart => exact ⟨0, 0, rfl, rfl, rfl⟩
  case round =>
    obtain ⟨j, nd, hj, rfl, rfl⟩ := hrel
    rcases Nat.lt_or_ge j l.length with hlt | hge
    · obtain ⟨g1, o1, rfl, -, d⟩ := h1.cell encG_len (by decide) hlt
      obtain ⟨g2, o2, rfl, -, f⟩ := h2.cell encG_len (by decide) hlt
      have dd := fun q h => (d j hlt q h).1
      have ff := fun q h => (f j hlt q h).1
      generalize l[j] = e at *
      obtain ⟨⟨⟨a, b, c, e, f9f, g, h⟩, rr, i, jj⟩, k⟩ := e
      have d0 := dd 0 (by decide)
      have d1 := dd 1 (by decide)
      have d2 := dd 2 (by decide)
      have d3 := dd 3 (by decide)
      have d4 := dd 4 (by decide)
      have d5 := dd 5 (by decide)
      have d6 := dd 6 (by decide)
      have d7 := dd 7 (by decide)
      have d8 := dd 8 (by decide)
      have d9 := dd 9 (by decide)
      have f0 := ff 0 (by decide)
      have f1 := ff 1 (by decide)
      have f2 := ff 2 (by decide)
      have f3 := ff 3 (by decide)
      have f4 := ff 4 (by decide)
      have f5 := ff 5 (by decide)
      have f6 := ff 6 (by decide)
      have f7 := ff 7 (by decide)
      have f8 := ff 8 (by decide)
      have f9 := ff 9 (by decide)
      simp only [encG, List.getElem?_cons_zero, List.getElem?_cons_succ, Nat.add_zero] at d0 d1 d2 d3 d4 d5 d6 d7 d8 d9 f0 f1 f2 f3 f4 f5 f6 f7 f8 f9
      simp only [← Nat.add_assoc] at d1 d2 d3 d4 d5 d6 d7 d8 d9 f1 f2 f3 f4 f5 f6 f7 f8 f9
      have b1 : (j : Int) < l.length := by omega
      clear dd ff
      go_wp2
      go_quiet (fail)
      go_wp2
      obtain ⟨k, rfl⟩ : ∃ k, gk = k + 1 := ⟨gk - 1, by omega⟩
      go_roundg k
      case measure => omega
      case rel => exact ⟨j + 1, nd + nq, by omega, by simp, rfl⟩
    · go_wp2
      go_ret
      exact ⟨rfl, nd, rfl⟩
end Go.Proofs.Ytloiadhdkgkjkaa
/- The law's lent and left by contract: a history lent with a mark behind it. -/
namespace Go.Proofs.Ytloiadhdkgkjkaa
open Go.RowKit
set_option maxHeartbeats 40000000
set_option linter.unusedVariables false
set_option linter.unusedSimpArgs false
def markE : Ev := ⟨-7, 0, 0, 0, false, 0⟩
set_option maxRecDepth 100000 in
theorem lent_b {w : World} {A : Option Addr} {cp : Nat} {l : List Ev} (hL : LiesV w (.slice A l.length cp) l) (hsz : l.length * 48 + 480 ≤ 140737488355328) :
    Calls Try.prog 7 #[.slice A l.length cp] w fun x w' => Below w.heap.size w w' ∧ ∃ A' cap, x = .returned (.slice A' l.length cap) ∧ l.length + 1 ≤ cap ∧ Sl 61 6 encV w' (.slice A' (l.length + 1) cap) (l ++ [markE]) ∧ ∀ q, own (.slice A' (l.length + 1) cap) q → w.heap.size ≤ q := by
  have hsrc := Lib.hid hL.src
  have hlen : (l.length : Int) ≤ 9223372036854775807 := by omega
  have hz : Hid (l.length * 48 ≤ 140737488355328) := Lib.hid (by omega)
  have hz1 : Hid ((l.length + 1) * 48 ≤ 140737488355328) := Lib.hid (by omega)
  clear hL
  go_enter Try.func7, Try.ntmps7
  go_wp2_with (at_builtin; first | (refine wpList_evsN l.length w rfl (.const (.slice none 0 0)) (.tmp 4) rfl (.slice none 0 0) _ [] l l rfl (Sl.nil _) rfl hsrc.out (by simp) (by simp) (by have := hz.out; omega) hz.out ?_; intro A1 c1 w1 hc1 H1 f1; have W1 := (Sl.new (e := 61) encV_len w1 [markE] (by decide)).src encV_one) | (refine wpList_evsN (l.length + 1) (w1.alloc _) rfl (.tmp 5) (.tmp 7) rfl _ _ l [markE] (l ++ [markE]) rfl (H1.alloc _) rfl W1 rfl rfl (by have := hz1.out; omega) hz1.out ?_; intro A2 c2 w2 hc2 H2 f2))
  go_ret
  have e1 : ∀ q, own (.slice A1 l.length c1) q → w.heap.size ≤ q := f1.ge (fun q hq => absurd hq (no_own_nil q)) (Nat.le_refl _)
  have b1 : Below w.heap.size w w1 := f1.below (fun q hq => absurd hq (no_own_nil q)) (Nat.le_refl _)
  exact ⟨(b1.alloc b1.size _).trans (f2.below e1 (b1.alloc b1.size _).size), A2, c2, rfl, hc2, H2, f2.ge e1 (b1.alloc b1.size _).size⟩
theorem Sl.lcut {w : World} {A : Option Addr} {cap : Nat} {l : List Ev} (h : Sl 61 6 encV w (.slice A (l.length + 1) cap) (l ++ [markE])) (hc : l.length + 1 ≤ cap) : Sl 61 6 encV w (.slice A l.length cap) l := by
  have := Sl.cut encV_len h (m := l.length) (c := cap) (by simp) (by omega) (Nat.le_refl _)
  rwa [List.take_left] at this
set_option maxRecDepth 100000 in
theorem left_b {w : World} {A A2 : Option Addr} {cap cp : Nat} {l : List Ev} {va vb : Value} {first : List Int} (hM : Sl 61 6 encV w (.slice A (l.length + 1) cap) (l ++ [markE])) (hc : l.length + 1 ≤ cap) (hL : LiesV w (.slice A2 l.length cp) l) (hwf : ∀ e ∈ l, EvWf e) (hsz : l.length * 48 + 480 ≤ 140737488355328)
    (h1 : Lies w va first) (h2 : Lies w vb first) (hf : (first.length : Int) ≤ 9223372036854775807) :
    Calls Try.prog 13 #[.slice A l.length cap, .slice A2 l.length cp, va, vb] w fun x w' => x = .returned (.bool true) ∧ ∃ n, w' = w.drewN n := by
  have hlen : (l.length : Int) ≤ 9223372036854775807 := by omega
  have w1 := IntWalk.i64_in (n := (l.length : Int) + 1) (by omega)
  have hcI : (l.length : Int) + 1 ≤ cap := by omega
  have CS := Lib.hid (rsame_b ((hM.lcut hc).liesV hwf (by have := hL.len; omega)) hL)
  have CW := Lib.hid (fun n => words_b (h1.drewN n) (h2.drewN n) hf)
  have hM' : Sl 61 6 encV w (.slice A (l ++ [markE]).length cap) (l ++ [markE]) := by rw [List.length_append]; exact hM
  obtain ⟨g, o, rfl, hg, hcl⟩ := hM'.cell encV_len (by decide) (i := l.length) (by simp)
  have d0 := (hcl l.length (by simp) 0 (by decide)).1
  rw [List.getElem_append_right (Nat.le_refl _)] at d0
  simp only [Nat.sub_self, List.getElem_cons_zero, encV, markE, List.getElem?_cons_zero, Nat.add_zero] at d0
  have hc0 : ((cap : Nat) = 0) = False := by simp; omega
  clear hM hM' hcl hL h1 h2 hwf
  go_enter Try.func13, Try.ntmps13
  go_wp2_with fail
  refine CS.out.mono ?_
  rintro _ _ ⟨rfl, n1, rfl⟩
  go_wp2_with fail
  refine (CW.out n1).mono ?_
  rintro _ _ ⟨⟨n2, rfl⟩, rfl⟩
  go_wp2
  go_ret
  exact ⟨by simp, n1 + n2, rfl⟩
end Go.Proofs.Ytloiadhdkgkjkaa
/- A sight laid over another one, cell by cell. -/
namespace Go.Proofs.Ytloiadhdkgkjkaa
open Go.RowKit
set_option maxHeartbeats 4000000
set_option linter.unusedVariables false
theorem Sl.updK {w : World} {g o n cap k : Nat} {L : List (Sg × Int)} {x x' : Sg × Int} (h : Sl 40 10 encG w (.slice (some ⟨g, o, none⟩) n cap) (L.set k x)) (hk : k < L.length) (j : Nat) (hj : j < 10) (u : Value) (hx : encG x' = (encG x).set j u) :
    Sl 40 10 encG (w.setCell ⟨g, o + k * 10 + j, none⟩ u) (.slice (some ⟨g, o, none⟩) n cap) (L.set k x') := by
  have h1 := h.upd encG_len (i := k) (by rw [List.length_set]; exact hk) hj u x' (by rw [List.getElem_set_self]; exact hx)
  rw [List.set_set, ← Nat.add_assoc] at h1
  exact h1
theorem Sl.put10 {w : World} {g o n cap k : Nat} {L : List (Sg × Int)} (h : Sl 40 10 encG w (.slice (some ⟨g, o, none⟩) n cap) L) (hk : k < L.length) (th sn ho z : Int) (fi la rd wt fr up : Nat) :
    ∃ rr, Sl 40 10 encG ((((((((((w.setCell ⟨g, o + k * 10, none⟩ (.int .i64 th)).setCell ⟨g, o + k * 10 + 1, none⟩ (.int .i64 fi)).setCell ⟨g, o + k * 10 + 2, none⟩ (.int .i64 la)).setCell ⟨g, o + k * 10 + 3, none⟩ (.int .u64 sn)).setCell ⟨g, o + k * 10 + 4, none⟩ (.int .i64 ho)).setCell ⟨g, o + k * 10 + 5, none⟩ (.int .i64 rd)).setCell ⟨g, o + k * 10 + 6, none⟩ (.int .i64 wt)).setCell ⟨g, o + k * 10 + 7, none⟩ (.int .i64 fr)).setCell ⟨g, o + k * 10 + 8, none⟩ (.int .i64 up)).setCell ⟨g, o + k * 10 + 9, none⟩ (.int .i64 z)) (.slice (some ⟨g, o, none⟩) n cap) (L.set k ((⟨⟨th, fi, la, sn, ho, rd, wt⟩, rr, fr, up⟩ : Sg), z)) := by
  have h0 : Sl 40 10 encG w (.slice (some ⟨g, o, none⟩) n cap) (L.set k (L[k]'hk)) := by rw [List.set_getElem_self]; exact h
  generalize (L[k]'hk) = x at h0
  obtain ⟨⟨⟨oth, ofi, ola, osn, oho, ord, owt⟩, rr, ofr, oup⟩, oz⟩ := x
  refine ⟨rr, ?_⟩
  have h1 := h0.updK (x' := ((⟨⟨th, ofi, ola, osn, oho, ord, owt⟩, rr, ofr, oup⟩ : Sg), oz)) hk 0 (by decide) (.int .i64 th) rfl
  have h2 := h1.updK (x' := ((⟨⟨th, fi, ola, osn, oho, ord, owt⟩, rr, ofr, oup⟩ : Sg), oz)) hk 1 (by decide) (.int .i64 fi) rfl
  have h3 := h2.updK (x' := ((⟨⟨th, fi, la, osn, oho, ord, owt⟩, rr, ofr, oup⟩ : Sg), oz)) hk 2 (by decide) (.int .i64 la) rfl
  have h4 := h3.updK (x' := ((⟨⟨th, fi, la, sn, oho, ord, owt⟩, rr, ofr, oup⟩ : Sg), oz)) hk 3 (by decide) (.int .u64 sn) rfl
  have h5 := h4.updK (x' := ((⟨⟨th, fi, la, sn, ho, ord, owt⟩, rr, ofr, oup⟩ : Sg), oz)) hk 4 (by decide) (.int .i64 ho) rfl
  have h6 := h5.updK (x' := ((⟨⟨th, fi, la, sn, ho, rd, owt⟩, rr, ofr, oup⟩ : Sg), oz)) hk 5 (by decide) (.int .i64 rd) rfl
  have h7 := h6.updK (x' := ((⟨⟨th, fi, la, sn, ho, rd, wt⟩, rr, ofr, oup⟩ : Sg), oz)) hk 6 (by decide) (.int .i64 wt) rfl
  have h8 := h7.updK (x' := ((⟨⟨th, fi, la, sn, ho, rd, wt⟩, rr, fr, oup⟩ : Sg), oz)) hk 7 (by decide) (.int .i64 fr) rfl
  have h9 := h8.updK (x' := ((⟨⟨th, fi, la, sn, ho, rd, wt⟩, rr, fr, up⟩ : Sg), oz)) hk 8 (by decide) (.int .i64 up) rfl
  have h10 := h9.updK (x' := ((⟨⟨th, fi, la, sn, ho, rd, wt⟩, rr, fr, up⟩ : Sg), z)) hk 9 (by decide) (.int .i64 z) rfl
  exact h10
end Go.Proofs.Ytloiadhdkgkjkaa
