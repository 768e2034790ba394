/- PartLists: its walk. -/
import Derived.Deep.DeepMust
import Derived.Deep.QuietTactic
import Derived.BigQuiet
import Derived.Deep.LoopGhost
import Derived.Test.YtcgdpclhlepofaaPPl12
import Derived.Test.YtcgdpclhlepofaaPPl13
namespace Go.Proofs.Ytcgdpclhlepofaa
open Go.RowKit
set_option maxHeartbeats 4000000
set_option linter.unusedVariables false
set_option linter.unusedSimpArgs false

theorem wsame_b {va vb : Value} {l : List Int} {w : World} (h1 : Lies w va l) (h2 : Lies w vb l) (hn : (l.length : Int) ≤ 9223372036854775807) :
    Calls Try.prog 22 #[va, vb] w fun e w' => (∃ n, w' = w.drewN n) ∧ e = .returned (.bool true) :=
  (words_b h1 h2 hn).mono fun e w' ⟨h, he⟩ => ⟨h, by rw [he]; simp⟩

theorem tw_take {key : Int} : ∀ {A : List Int} {a : Nat}, a ≤ A.length → (∀ i, i < a → A.getD i 0 < key) → (a < A.length → ¬ A.getD a 0 < key) → A.takeWhile (fun x => decide (x < key)) = A.take a ∧ A.dropWhile (fun x => decide (x < key)) = A.drop a
  | [], a, h, _, _ => by simp
  | y :: A, 0, _, _, h2 => by
    have hy : ¬ y < key := by simpa using h2 (by simp)
    rw [List.takeWhile_cons, List.dropWhile_cons]
    simp [hy]
  | y :: A, a + 1, h, h1, h2 => by
    have hy : y < key := by simpa using h1 0 (by omega)
    obtain ⟨e1, e2⟩ := tw_take (A := A) (a := a) (by simpa using h) (fun i hi => by simpa using h1 (i + 1) (by omega)) (fun hl => by simpa using h2 (by simpa using hl))
    rw [List.takeWhile_cons, List.dropWhile_cons]
    simp [hy, e1, e2]
theorem newK_end {A : List Int} {key : Int} {a : Nat} (h : A.dropWhile (fun x => decide (x < key)) = A.drop a) (ha : a = A.length) : newK A key = true := by
  unfold newK
  rw [h, ha, List.drop_length]
  simp
theorem newK_at {A : List Int} {key : Int} {a : Nat} (h : A.dropWhile (fun x => decide (x < key)) = A.drop a) (ha : a < A.length) : newK A key = (A.getD a 0 != key) := by
  unfold newK
  rw [h, List.drop_eq_getElem_cons ha, List.getD_eq_getElem?_getD, List.getElem?_eq_getElem ha]
  simp only [List.head?_cons, Option.getD_some, Option.some.injEq]
  by_cases hk : A[a] = key
  · simp only [hk, decide_true, Bool.not_true, bne_self_eq_false]
  · rw [decide_eq_false hk, Bool.not_false]
    exact (bne_iff_ne.2 hk).symm
theorem insK_no {A : List Int} {key : Int} (h : newK A key = false) : insK A key = A := by
  unfold newK at h
  unfold insK
  rw [if_pos (by simpa using h)]
theorem insK_yes {A : List Int} {key : Int} {a : Nat} (h1 : A.takeWhile (fun x => decide (x < key)) = A.take a) (h2 : A.dropWhile (fun x => decide (x < key)) = A.drop a) (h : newK A key = true) : insK A key = A.take a ++ key :: A.drop a := by
  unfold newK at h
  unfold insK
  rw [if_neg (by simpa using h), h1, h2]

set_option maxRecDepth 100000 in
theorem partLists_walk {W : World} {Aw : Option Addr} {keys : List Int} {cw : Nat} (hw : WordsIn W Aw keys cw) (W0 : World) (e0 : W0 = W := by rfl) :
    Calls Try.prog 5 #[.slice Aw keys.length cw] W (TrueP W.heap.size W) := by
  have HLW := Lib.hid hw.lies
  have hlen := hw.len
  have HBD := Lib.hid hw.bd
  have hcw : (keys.length : Int) ≤ cw := by have := hw.cap; omega
  clear hw
  have hli : (keys.length : Int) ≤ 17592186043904 := by omega
  clear hlen
  go_enter Try.func5, Try.ntmps5
  by_cases hbig : (300 : Int) < keys.length
  · go_wp2_with fail
    refine (works_b _).mono ?_
    rintro _ w1 ⟨rfl, hb1⟩
    have HB1 := Lib.hid hb1
    go_wp2
    go_ret
    exact ⟨rfl, HB1.out⟩
  have hwi : (keys.length : Int) ≤ 300 := by omega
  clear hbig hli
  go_wp2_with fail
  refine (laid_b 2000 (by omega) (by omega) W).mono ?_
  rintro _ w1 ⟨t, F1, rfl, hw1, ho1, f1, b1, hb1⟩
  have HP1 : Hid (PL W w1 t F1 (laidSt 2000) [] []) := Lib.hid ⟨hw1, f1, hb1, ho1, (fun p hp => nomatch hp), .nil, (fun p hp => nomatch hp)⟩
  clear hw1 f1 hb1 ho1
  go_wp2_with fail
  have b1 : Bud (laidSt 2000) (4000000000 + 6) := b1.mono (by omega)
  refine (new_b (n := 4000000000) HP1.out.tx HP1.out.fits b1 (by omega) (Fr.refl F1 _)).mono ?_
  rintro _ w2 ⟨x, e2, s2, q2, dx, dx', rfl, hL2⟩
  obtain ⟨sx, u2, h2⟩ := lst_new
  obtain ⟨rfl, rfl, rfl⟩ : 18 = x ∧ 0 = e2 ∧ sx = s2 := by have := u2.symm.trans q2.out; simpa using this
  obtain ⟨F2, hP2, b2⟩ := HP1.out.step hL2
  have HP2 := Lib.hid hP2.nil
  have HS2 := Lib.hid h2
  clear HP1 hL2 q2 u2 h2 hP2 dx dx' b1
  go_wp2_with (go_at_call 17; refine (num_b _ _).mono ?_; rintro e _ ⟨rfl, rfl⟩)
  have b2 : Bud sx (3900000000 + 6000 * keys.length) := b2.mono (by omega)
  go_loopg [6, 7] keys.length (fun gk c6 c7 wr => ∃ (j : Nat) (sy : St) (Fx : Nat → Prop) (A : List Int) (Av : Option Addr) (cv g : Nat), gk + j = keys.length ∧ c6 = .slice Av A.length cv ∧ A.length ≤ cv ∧ c7 = .int .i64 (j : Int) ∧ A.length ≤ j ∧ Hid (∀ x ∈ A, 0 ≤ x ∧ x ≤ 18446744073709551615) ∧ Hid (LSt sy [] [] A (20 + 2 * j) g) ∧ Hid (PL W wr t Fx sy [(.slice Av A.length cv, A)] []) ∧ Bud sy (3900000000 + 6000 * gk))
  case atStart => exact ⟨0, sx, F2, [], none, 0, 0, rfl, rfl, Nat.le_refl _, rfl, Nat.le_refl _, Lib.hid (by simp), by simpa using HS2, HP2, b2⟩
  case round =>
    obtain ⟨j, sy, Fx, A, Av, cv, gx, hgk, rfl, hcv, rfl, hAj, HA, HS, HP, bx⟩ := hrel
    have HG := Lib.hid hgk
    clear hgk HS2 HP2 b2
    by_cases hj : j < keys.length
    · obtain ⟨g, rfl⟩ : ∃ g, gk = g + 1 := ⟨gk - 1, by have := HG.out; omega⟩
      obtain ⟨A2, c2, ev, hc2, _, hcs⟩ := HLW.out.below HP.out.bel
      rw [Value.slice.injEq] at ev
      obtain ⟨rfl, -, rfl⟩ := ev
      obtain ⟨gz, oz, rfl, hcl⟩ := hcs j hj
      have hxb := HBD.out _ (show keys.getD j 0 ∈ keys by rw [List.getD_eq_getElem?_getD, List.getElem?_eq_getElem hj]; exact List.getElem_mem hj)
      have hji : (j : Int) < keys.length := by omega
      have HKC : Hid (∀ {w' : World}, Below W.heap.size W w' → w'.cell? ⟨gz, oz + j, none⟩ = some (.int .u64 (keys.getD j 0))) := Lib.hid fun hb => by
        obtain ⟨A3, c3, ev3, _, _, hcs3⟩ := HLW.out.below hb
        rw [Value.slice.injEq] at ev3
        obtain ⟨rfl, -, rfl⟩ := ev3
        obtain ⟨g', o', e', hc'⟩ := hcs3 j hj
        simp only [Option.some.injEq, Addr.mk.injEq, and_true] at e'
        obtain ⟨rfl, rfl⟩ := e'
        exact hc'
      obtain ⟨hx1, hx2⟩ := hxb
      clear hcs
      generalize keys.getD j 0 = key at *
      have hAi : (A.length : Int) ≤ j := by omega
      have bx : Bud sy ((3900000000 + 6000 * g + 2900 + 9) + 3000) := bx.mono (by omega)
      obtain ⟨p', ks', s1, hR, s7, g7, u7, h7⟩ := lst_insert (N := 1000) key HS.out bx (by omega) (by omega)
      go_wp2_with fail
      refine (insert_b (n := 3900000000 + 6000 * g) (N := 1000) HP.out.tx HP.out.fits (bx.mono (by omega)) (by omega) (by omega) (by omega) (by omega) hx1 hx2 hR (Fr.refl Fx _)).mono ?_
      rw [u7]
      rintro _ w7 ⟨rfl, hL7⟩
      obtain ⟨F7, hP7, b7⟩ := HP.out.step hL7
      have HS7 : Hid (LSt s7 [] [] (insK A key) (20 + 2 * ((j + 1 : Nat) : Int)) g7) := Lib.hid (h7.wide (by omega))
      have HP7 := Lib.hid hP7
      have hkc := HKC.out hP7.bel
      clear HP hL7 u7 h7 hP7 hcl hR bx
      have b7 : Bud s7 (3900000000 + 6000 * g) := b7
      have HP7 : Hid (PL W w7 t F7 s7 [(.slice Av A.length cv, A)] []) := HP7
      obtain ⟨nk, hnk⟩ : ∃ nk, newK A key = nk := ⟨_, rfl⟩
      rw [hnk]
      replace hnk := Lib.hid hnk
      have hcv2 : (A.length : Int) ≤ cv := by omega
      go_wp2_with fail
      go_loopg [10] A.length (fun gk c10 wr => ∃ a : Nat, gk + a = A.length ∧ c10 = .int .i64 (a : Int) ∧ Hid (∀ i, i < a → A.getD i 0 < key) ∧ Hid (PL W wr t F7 s7 [(.slice Av A.length cv, A)] []))
      case atStart => exact ⟨0, rfl, rfl, Lib.hid (fun i hi => by omega), HP7⟩
      case round =>
        obtain ⟨a, hgk, rfl, HLT, HP⟩ := hrel
        have HG2 := Lib.hid hgk
        have hai : (a : Int) ≤ A.length := by omega
        clear hgk HP7 hkc
        have hkc := HKC.out HP.out.bel
        by_cases hcont : a < A.length ∧ A.getD a 0 < key
        · obtain ⟨ha, hy⟩ := hcont
          obtain ⟨m, rfl⟩ : ∃ m, gk = m + 1 := ⟨gk - 1, by have := HG2.out; omega⟩
          obtain ⟨gy, oy, rfl, _, hcy, _⟩ := (HP.out.ls (.slice Av A.length cv, A) (by simp)).1.upd ha
          have hai2 : (a : Int) < A.length := by omega
          have HLT2 : Hid (∀ i, i < a + 1 → A.getD i 0 < key) := Lib.hid fun i hi => by
            rcases Nat.lt_or_eq_of_le (Nat.lt_succ_iff.1 hi) with h | rfl
            · exact HLT.out i h
            · exact hy
          clear HLT
          generalize A.getD a 0 = y at *
          have hyd : decide (y < key) = true := by simpa using hy
          go_upto_region 13 with (fail)
          refine wp_region_mix (fun _ => True) [3, 3, 3, 3, 3, 3, 3, 3, 1, 3, 3, 3, 1, 3, 3] (List.range 15) (by kernel_rfl) (by kernel_rfl) (fun _ _ h => h) trivial ?_
          (repeat ((first | refine wpMix_pure rfl rfl (fun K hK => ?_) | refine wpMix_loc rfl rfl (fun K hK => ?_) | refine wpMix_any rfl rfl (fun K hK => ?_)); go_simp; refine hK _ _ ?_; clear hK K))
          refine wpMix_nil (fun m9 => ?_)
          go_wp2
          go_roundg m
          case measure => omega
          case rel => exact ⟨a + 1, by have := HG2.out; omega, by go_num, HLT2, Lib.hid (HP.out.drewN _)⟩
        · have hle : a ≤ A.length := by omega
          obtain ⟨tw1, tw2⟩ := tw_take hle HLT.out fun hl h => hcont ⟨hl, h⟩
          have TW1 := Lib.hid tw1
          have TW2 := Lib.hid tw2
          go_upto_region 13 with (fail)
          go_cut [75] (fun c75 wx => c75 = .bool false ∧ Hid (PL W wx t F7 s7 [(.slice Av A.length cv, A)] []))
          case first =>
            by_cases ha : a < A.length
            · have hy : ¬ A.getD a 0 < key := fun h => hcont ⟨ha, h⟩
              obtain ⟨gy, oy, rfl, _, hcy, _⟩ := (HP.out.ls (.slice Av A.length cv, A) (by simp)).1.upd ha
              have hai2 : (a : Int) < A.length := by omega
              clear HLT hcont tw1 tw2
              generalize A.getD a 0 = y at *
              have hyd : decide (y < key) = false := by simpa using hy
              refine wp_region_mix (fun _ => True) [3, 3, 3, 3, 3, 3, 3, 3, 1, 3, 3, 3, 1, 3, 3] (List.range 15) (by kernel_rfl) (by kernel_rfl) (fun _ _ h => h) trivial ?_
              (repeat ((first | refine wpMix_pure rfl rfl (fun K hK => ?_) | refine wpMix_loc rfl rfl (fun K hK => ?_) | refine wpMix_any rfl rfl (fun K hK => ?_)); go_simp; refine hK _ _ ?_; clear hK K))
              refine wpMix_nil (fun m9 => ?_)
              go_wp2
              go_meet
              exact ⟨rfl, Lib.hid (HP.out.drewN _)⟩
            · obtain rfl : a = A.length := by omega
              clear HLT hcont tw1 tw2 ha hle hai TW1 TW2 hkc HG2
              refine wp_region_mixH (fun _ => True) [3, 3, 3, 3, 3, 3, 3, 3, 1, 3, 3, 3, 1, 3, 3] (List.range 15) (by kernel_rfl) (by kernel_rfl) (fun _ _ h => h) trivial ?_
              iterate 5 ((first | refine wpMixH_pure rfl rfl (fun K hK => ?_) | refine wpMixH_loc rfl rfl (fun K hK => ?_) | refine wpMixH_any rfl rfl (fun K hK => ?_)); go_simp; refine hK _ _ ?_; clear hK K)
              iterate 9 (refine wpMixH_skip rfl (by go_simp) (fun K hK => ?_); go_simp; refine hK _ _ ?_; clear hK K)
              (repeat ((first | refine wpMixH_pure rfl rfl (fun K hK => ?_) | refine wpMixH_loc rfl rfl (fun K hK => ?_) | refine wpMixH_any rfl rfl (fun K hK => ?_)); go_simp; refine hK _ _ ?_; clear hK K))
              refine wpMixH_nil (fun m9 => ?_)
              go_wp2
              go_meet
              exact ⟨rfl, Lib.hid ((HP.out.drewN 1).drewN m9)⟩
          case rest =>
            obtain ⟨rfl, HPc⟩ := hcut
            have hkc := HKC.out HPc.out.bel
            clear HP HLT hcont tw1 tw2
            go_wp2_with fail
            go_upto_region 15 with (fail)
            go_cut [11] (fun c11 wx => c11 = .bool nk ∧ Hid (PL W wx t F7 s7 [(.slice Av A.length cv, A)] []))
            case first =>
              by_cases ha : a < A.length
              · have hnk2 := hnk.out
                rw [newK_at TW2.out ha] at hnk2
                obtain ⟨gy, oy, rfl, _, hcy, _⟩ := (HPc.out.ls (.slice Av A.length cv, A) (by simp)).1.upd ha
                have hai2 : (a : Int) < A.length := by omega
                have haz : ((a : Int) == A.length) = false := by simp; omega
                generalize A.getD a 0 = y at *
                refine wp_region_mix (fun _ => True) [3, 3, 3, 3, 3, 3, 3, 3, 1, 3, 3, 3, 1, 3, 3, 3] (List.range 16) (by kernel_rfl) (by kernel_rfl) (fun _ _ h => h) trivial ?_
                (repeat ((first | refine wpMix_pure rfl rfl (fun K hK => ?_) | refine wpMix_loc rfl rfl (fun K hK => ?_) | refine wpMix_any rfl rfl (fun K hK => ?_)); go_simp; refine hK _ _ ?_; clear hK K))
                refine wpMix_nil (fun m9 => ?_)
                go_wp2
                go_meet
                exact ⟨by rw [← hnk2], Lib.hid ((HPc.out.drewN 1).drewN m9)⟩
              · have hae : a = A.length := by omega
                have hnk2 := hnk.out
                rw [newK_end TW2.out hae] at hnk2
                have hai2 : (a : Int) = A.length := by omega
                clear hnk
                subst hnk2
                rw [hai2] at *
                refine wp_region_mixH (fun _ => True) [3, 3, 3, 3, 3, 3, 3, 3, 1, 3, 3, 3, 1, 3, 3, 3] (List.range 16) (by kernel_rfl) (by kernel_rfl) (fun _ _ h => h) trivial ?_
                iterate 5 ((first | refine wpMixH_pure rfl rfl (fun K hK => ?_) | refine wpMixH_loc rfl rfl (fun K hK => ?_) | refine wpMixH_any rfl rfl (fun K hK => ?_)); go_simp; refine hK _ _ ?_; clear hK K)
                iterate 9 (refine wpMixH_skip rfl (by go_simp) (fun K hK => ?_); go_simp; refine hK _ _ ?_; clear hK K)
                (repeat ((first | refine wpMixH_pure rfl rfl (fun K hK => ?_) | refine wpMixH_loc rfl rfl (fun K hK => ?_) | refine wpMixH_any rfl rfl (fun K hK => ?_)); go_simp; refine hK _ _ ?_; clear hK K))
                refine wpMixH_nil (fun m9 => ?_)
                go_wp2
                go_meet
                exact ⟨rfl, Lib.hid (HPc.out.drewN _)⟩
            case rest =>
              obtain ⟨rfl, HPd⟩ := hcut
              have hkc := HKC.out HPd.out.bel
              clear HPc
              cases nk with
              | false =>
                have hins := insK_no hnk.out
                rw [hins] at HS7
                go_wp2_with (go_at_call 17; refine (num_b _ _).mono ?_; rintro e _ ⟨rfl, rfl⟩)
                go_roundg g
                case measure => omega
                case rel => exact ⟨j + 1, s7, F7, A, Av, cv, g7, by have := HG.out; omega, rfl, hcv, by go_num, by omega, HA, HS7, HPd, b7⟩
              | true =>
                go_wp2_with (go_at_call 17; refine (num_b _ _).mono ?_; rintro e _ ⟨rfl, rfl⟩)
                have hins := insK_yes TW1.out TW2.out hnk.out
                have hai3 : (a : Int) ≤ A.length := by omega
                have HWA := Lib.hid (HPd.out.ls (.slice Av A.length cv, A) (by simp)).1
                have HTA : Hid (Lies wc (.slice Av a cv) (A.take a)) := Lib.hid (Lies.take HWA.out.lies (i := a) (by omega))
                have hca : (a : Int) ≤ cv := by omega
                have htl : ((A.take a).length : Int) = a := by rw [List.length_take]; omega
                have HTL := Lib.hid htl
                clear htl
                have HINS := Lib.hid hins
                have HAI : Hid (∀ x ∈ insK A key, 0 ≤ x ∧ x ≤ 18446744073709551615) := Lib.hid fun x hx => by
                  rw [hins] at hx
                  rcases List.mem_append.1 hx with h | h
                  · exact HA.out x (List.mem_of_mem_take h)
                  · rcases List.mem_cons.1 h with rfl | h
                    · exact ⟨hx1, hx2⟩
                    · exact HA.out x (List.mem_of_mem_drop h)
                clear hins
                go_upto_region 19 with (fail)
                have HAV : (Av = none ∧ A.length = 0 ∧ cv = 0) ∨ ∃ gy oy, Av = some ⟨gy, oy, none⟩ := by
                  rcases HWA.out.2 with ⟨h1, h2⟩ | ⟨g1, o1, c1, cur1, h1, _⟩
                  · rw [Value.slice.injEq] at h1
                    exact .inl ⟨h1.1, h2, h1.2.2⟩
                  · rw [Value.slice.injEq] at h1
                    exact .inr ⟨g1, o1, h1.1⟩
                rcases HAV with ⟨rfl, hA0, rfl⟩ | ⟨gy, oy, rfl⟩
                · obtain rfl : a = 0 := by omega
                  refine wp_region_mix3 (fun W' => W'.cell? ⟨gz, oz + j, none⟩ = some (.int .u64 key)) [2,3,3,3,2,3,3,3,0,2,2,3,3,3,2,3] [1,2,3,5,6,7,8,11,12,13] 0 9 4 [0,4,10,14,15] [9,10,14,15] [4,10,14,15] (by kernel_rfl) (by kernel_rfl) (fun _ _ h => h) hkc ?_
                  have HT1 : Hid (∀ w', Below wc.heap.size wc w' → Lies w' (.slice none 0 0) (A.take 0)) := Lib.hid fun w' _ => ⟨none, 0, rfl, Nat.le_refl _, fun _ => rfl, fun j hj => by simp at hj⟩
                  have HT2 : Hid (∀ w', Below wc.heap.size wc w' → Lies w' (.slice none 0 0) (A.drop 0)) := Lib.hid fun w' _ => by
                    rw [List.drop_of_length_le (by omega)]
                    exact ⟨none, 0, rfl, Nat.le_refl _, fun _ => rfl, fun j hj => by simp at hj⟩
                  (repeat (first | ((first | refine wpMixE_pure rfl rfl (fun K hK => ?_) | refine wpMixE_any rfl rfl (fun K hK => ?_)); go_simp; refine hK _ _ ?_; clear hK K) | (refine wpMixE_any rfl rfl (fun K hK => ?_); rw [if_pos (by go_simp)]; apply Exists.intro; refine And.intro (fun w2 hS2 => ?_) (hK _ _ ?_); (focus (obtain hs0 := hS2; go_simp; rfl)); clear hK K)))
                  generalize Value.slice none 0 0 = v1 at HT1 HT2 ⊢
                  refine wpMixE_nil ⟨wpMixE_loud rfl rfl (fun n1 K hK => ?_), wpMix_loud rfl rfl (fun n1 K hK => ?_)⟩
                  · have HB0 := Lib.hid (below_drewNs (Below.refl wc.heap.size wc) (1 + n1))
                    go_wp2_with fail
                    have HQA : Hid (Wq wc ((wc.drewN (1 + n1)).alloc (.cells #[] 23)) (.slice (some ⟨wc.heap.size, 0, none⟩) 0 0) []) := Lib.hid (Wq.start HB0.out)
                    have HBA := Lib.hid HQA.out.bel
                    generalize (wc.drewN (1 + n1)).alloc (.cells #[] 23) = wA at *
                    generalize Value.slice (some ⟨wc.heap.size, 0, none⟩) 0 0 = VA at *
                    refine hK _ _ (fun _ => HKC.out (HPd.out.bel.trans (HBA.out.mono HPd.out.bel.size))) ?_
                    clear hK K
                    refine wpMixE_nil ⟨wpMix_loud rfl rfl (fun n2 K hK => ?_), wpMix_loud rfl rfl (fun n2 K hK => ?_)⟩
                    · have HQB := Lib.hid (HQA.out.drewN n2)
                      have HBB := Lib.hid (below_drewNs HBA.out n2)
                      generalize wA.drewN n2 = wB at *
                      refine wpList_words wB rfl (.tmp 102) (.tmp 105) rfl VA v1 [] (A.take 0) rfl HQB.out.wl rfl (HT1.out _ HBB.out) (by first | (simp; done) | (simp; omega)) ?_
                      intro AC cC wC hcC hvC hfC
                      generalize Value.slice AC _ cC = VC at *
                      have HQC := Lib.hid (HQB.out.app hvC hfC)
                      have HBC := Lib.hid HQC.out.bel
                      clear hcC hvC hfC
                      go_wp2_with fail
                      refine hK _ _ (fun _ => HKC.out (HPd.out.bel.trans (HBC.out.mono HPd.out.bel.size))) ?_
                      clear hK K
                      refine wpMix_loud rfl rfl (fun n3 K hK => ?_)
                      have HQD := Lib.hid (HQC.out.drewN n3)
                      have HBD := Lib.hid (below_drewNs HBC.out n3)
                      generalize wC.drewN n3 = wD at *
                      go_wp2_with fail
                      have HWE : Hid (Wk (wD.alloc (.cells #[.int .u64 key] 23)) VC wD.heap.size key) := Lib.hid (Wk.new wD VC (fun k hk => HQD.out.wl.lt k hk) key)
                      have HQE := Lib.hid (HQD.out.alloc (.cells #[.int .u64 key] 23))
                      have HBE := Lib.hid (HBD.out.alloc HBD.out.size (.cells #[.int .u64 key] 23))
                      generalize wD.alloc (.cells #[.int .u64 key] 23) = wE at *
                      generalize hEE : Value.slice (some ⟨wD.heap.size, 0, none⟩) 1 1 = LE
                      replace hEE := Lib.hid hEE
                      generalize wD.heap.size = g9 at *
                      refine hK _ _ (fun _ => HKC.out (HPd.out.bel.trans (HBE.out.mono HPd.out.bel.size))) ?_
                      clear hK K
                      refine wpMix_loud rfl rfl (fun n4 K hK => ?_)
                      have HQF := Lib.hid (HQE.out.drewN n4)
                      have HWF := Lib.hid (HWE.out.drewN n4)
                      have HBF := Lib.hid (below_drewNs HBE.out n4)
                      generalize wE.drewN n4 = wF at *
                      refine wpList_words wF rfl (.tmp 106) (.tmp 111) rfl VC LE ([] ++ (A.take 0)) [key] rfl HQF.out.wl rfl (by rw [← hEE.out]; exact HWF.out.lies) (by first | (simp; done) | (simp; omega)) ?_
                      intro AG cG wG hcG hvG hfG
                      generalize Value.slice AG _ cG = VG at *
                      have HQG := Lib.hid (HQF.out.app hvG hfG)
                      have HWG := Lib.hid (HWF.out.app hvG hfG HWF.out.lt)
                      have HBG := Lib.hid HQG.out.bel
                      clear hcG hvG hfG
                      go_wp2_with fail
                      refine hK _ _ (fun _ => HKC.out (HPd.out.bel.trans (HBG.out.mono HPd.out.bel.size))) ?_
                      clear hK K
                      refine wpMix_loud rfl rfl (fun n5 K hK => ?_)
                      have HQH := Lib.hid (HQG.out.drewN n5)
                      have HWH := Lib.hid (HWG.out.drewN n5)
                      have HBH := Lib.hid (below_drewNs HBG.out n5)
                      generalize wG.drewN n5 = wH at *
                      refine wpList_words wH rfl (.tmp 112) (.tmp 115) rfl VG v1 (([] ++ (A.take 0)) ++ [key]) (A.drop 0) rfl HQH.out.wl rfl (HT2.out _ HBH.out) (by first | (simp; done) | (simp; omega)) ?_
                      intro AI cI wI hcI hvI hfI
                      generalize Value.slice AI _ cI = VI at *
                      have HQI := Lib.hid (HQH.out.app hvI hfI)
                      have HWI := Lib.hid (HWH.out.app hvI hfI HWH.out.lt)
                      have HBI := Lib.hid HQI.out.bel
                      clear hcI hvI hfI
                      go_wp2_with fail
                      refine hK _ _ (fun _ => HKC.out (HPd.out.bel.trans (HBI.out.mono HPd.out.bel.size))) ?_
                      clear hK K
                      ((first | refine wpMix_pure rfl rfl (fun K hK => ?_) | refine wpMix_loc rfl rfl (fun K hK => ?_) | refine wpMix_any rfl rfl (fun K hK => ?_)); go_simp; refine hK _ _ ?_; clear hK K)
                      refine wpMix_nil (fun m9 => ?_)
                      have HQz := Lib.hid (HQI.out.drewN m9)
                      generalize wI.drewN m9 = wz at *
                      obtain ⟨Az, cz, rfl, hcz⟩ := HQz.out.wl.shape
                      have hins := HINS.out
                      have hlen : ((([] ++ (A.take 0)) ++ [key]) ++ (A.drop 0)).length = (insK A key).length := by rw [hins]; simp [show A = [] from List.length_eq_zero_iff.1 hA0]
                      have HPz := Lib.hid (HPd.out.swap HQz.out.bel HQz.out.wl HQz.out.ge)
                      rw [hlen] at HPz hcz ⊢
                      rw [show ((([] ++ (A.take 0)) ++ [key]) ++ (A.drop 0)) = insK A key by rw [hins]; simp [show A = [] from List.length_eq_zero_iff.1 hA0]] at HPz
                      clear hlen hins
                      have hil : (insK A key).length ≤ j + 1 := by rw [HINS.out]; have := HTL.out; simp; omega
                      go_wp2
                      go_roundg g
                      case measure => omega
                      case rel => exact ⟨j + 1, s7, F7, insK A key, Az, cz, g7, by have := HG.out; omega, rfl, hcz, by go_num, hil, HAI, HS7, HPz, b7⟩
                    · have HQB := Lib.hid (HQA.out.drewN n2)
                      have HBB := Lib.hid (below_drewNs HBA.out n2)
                      generalize wA.drewN n2 = wB at *
                      go_wp2_with fail
                      have HWC : Hid (Wk (wB.alloc (.cells #[.int .u64 key] 23)) VA wB.heap.size key) := Lib.hid (Wk.new wB VA (fun k hk => HQB.out.wl.lt k hk) key)
                      have HQC := Lib.hid (HQB.out.alloc (.cells #[.int .u64 key] 23))
                      have HBC := Lib.hid (HBB.out.alloc HBB.out.size (.cells #[.int .u64 key] 23))
                      generalize wB.alloc (.cells #[.int .u64 key] 23) = wC at *
                      generalize hEC : Value.slice (some ⟨wB.heap.size, 0, none⟩) 1 1 = LC
                      replace hEC := Lib.hid hEC
                      generalize wB.heap.size = g9 at *
                      refine hK _ _ (fun _ => HKC.out (HPd.out.bel.trans (HBC.out.mono HPd.out.bel.size))) ?_
                      clear hK K
                      refine wpMix_loud rfl rfl (fun n3 K hK => ?_)
                      have HQD := Lib.hid (HQC.out.drewN n3)
                      have HWD := Lib.hid (HWC.out.drewN n3)
                      have HBD := Lib.hid (below_drewNs HBC.out n3)
                      generalize wC.drewN n3 = wD at *
                      refine wpList_words wD rfl (.tmp 102) (.tmp 105) rfl VA v1 [] (A.take 0) rfl HQD.out.wl rfl (HT1.out _ HBD.out) (by first | (simp; done) | (simp; omega)) ?_
                      intro AE cE wE hcE hvE hfE
                      generalize Value.slice AE _ cE = VE at *
                      have HQE := Lib.hid (HQD.out.app hvE hfE)
                      have HWE := Lib.hid (HWD.out.app hvE hfE HWD.out.lt)
                      have HBE := Lib.hid HQE.out.bel
                      clear hcE hvE hfE
                      go_wp2_with fail
                      refine hK _ _ (fun _ => HKC.out (HPd.out.bel.trans (HBE.out.mono HPd.out.bel.size))) ?_
                      clear hK K
                      refine wpMix_loud rfl rfl (fun n4 K hK => ?_)
                      have HQF := Lib.hid (HQE.out.drewN n4)
                      have HWF := Lib.hid (HWE.out.drewN n4)
                      have HBF := Lib.hid (below_drewNs HBE.out n4)
                      generalize wE.drewN n4 = wF at *
                      refine wpList_words wF rfl (.tmp 106) (.tmp 111) rfl VE LC ([] ++ (A.take 0)) [key] rfl HQF.out.wl rfl (by rw [← hEC.out]; exact HWF.out.lies) (by first | (simp; done) | (simp; omega)) ?_
                      intro AG cG wG hcG hvG hfG
                      generalize Value.slice AG _ cG = VG at *
                      have HQG := Lib.hid (HQF.out.app hvG hfG)
                      have HWG := Lib.hid (HWF.out.app hvG hfG HWF.out.lt)
                      have HBG := Lib.hid HQG.out.bel
                      clear hcG hvG hfG
                      go_wp2_with fail
                      refine hK _ _ (fun _ => HKC.out (HPd.out.bel.trans (HBG.out.mono HPd.out.bel.size))) ?_
                      clear hK K
                      refine wpMix_loud rfl rfl (fun n5 K hK => ?_)
                      have HQH := Lib.hid (HQG.out.drewN n5)
                      have HWH := Lib.hid (HWG.out.drewN n5)
                      have HBH := Lib.hid (below_drewNs HBG.out n5)
                      generalize wG.drewN n5 = wH at *
                      refine wpList_words wH rfl (.tmp 112) (.tmp 115) rfl VG v1 (([] ++ (A.take 0)) ++ [key]) (A.drop 0) rfl HQH.out.wl rfl (HT2.out _ HBH.out) (by first | (simp; done) | (simp; omega)) ?_
                      intro AI cI wI hcI hvI hfI
                      generalize Value.slice AI _ cI = VI at *
                      have HQI := Lib.hid (HQH.out.app hvI hfI)
                      have HWI := Lib.hid (HWH.out.app hvI hfI HWH.out.lt)
                      have HBI := Lib.hid HQI.out.bel
                      clear hcI hvI hfI
                      go_wp2_with fail
                      refine hK _ _ (fun _ => HKC.out (HPd.out.bel.trans (HBI.out.mono HPd.out.bel.size))) ?_
                      clear hK K
                      ((first | refine wpMix_pure rfl rfl (fun K hK => ?_) | refine wpMix_loc rfl rfl (fun K hK => ?_) | refine wpMix_any rfl rfl (fun K hK => ?_)); go_simp; refine hK _ _ ?_; clear hK K)
                      refine wpMix_nil (fun m9 => ?_)
                      have HQz := Lib.hid (HQI.out.drewN m9)
                      generalize wI.drewN m9 = wz at *
                      obtain ⟨Az, cz, rfl, hcz⟩ := HQz.out.wl.shape
                      have hins := HINS.out
                      have hlen : ((([] ++ (A.take 0)) ++ [key]) ++ (A.drop 0)).length = (insK A key).length := by rw [hins]; simp [show A = [] from List.length_eq_zero_iff.1 hA0]
                      have HPz := Lib.hid (HPd.out.swap HQz.out.bel HQz.out.wl HQz.out.ge)
                      rw [hlen] at HPz hcz ⊢
                      rw [show ((([] ++ (A.take 0)) ++ [key]) ++ (A.drop 0)) = insK A key by rw [hins]; simp [show A = [] from List.length_eq_zero_iff.1 hA0]] at HPz
                      clear hlen hins
                      have hil : (insK A key).length ≤ j + 1 := by rw [HINS.out]; have := HTL.out; simp; omega
                      go_wp2
                      go_roundg g
                      case measure => omega
                      case rel => exact ⟨j + 1, s7, F7, insK A key, Az, cz, g7, by have := HG.out; omega, rfl, hcz, by go_num, hil, HAI, HS7, HPz, b7⟩
                  · have HB0 := Lib.hid (below_drewNs (Below.refl wc.heap.size wc) (1 + n1))
                    go_wp2_with fail
                    have HWA : Hid (Wk ((wc.drewN (1 + n1)).alloc (.cells #[.int .u64 key] 23)) (.slice none 0 0) wc.heap.size key) := Lib.hid (Wk.new (wc.drewN (1 + n1)) (.slice none 0 0) (fun k hk => nomatch hk) key)
                    have HBA := Lib.hid (HB0.out.alloc HB0.out.size (.cells #[.int .u64 key] 23))
                    generalize (wc.drewN (1 + n1)).alloc (.cells #[.int .u64 key] 23) = wA at *
                    generalize hEA : Value.slice (some ⟨wc.heap.size, 0, none⟩) 1 1 = LA
                    replace hEA := Lib.hid hEA
                    refine hK _ _ (fun _ => HKC.out (HPd.out.bel.trans (HBA.out.mono HPd.out.bel.size))) ?_
                    clear hK K
                    refine wpMix_loud rfl rfl (fun n2 K hK => ?_)
                    have HWB := Lib.hid (HWA.out.drewN n2)
                    have HBB := Lib.hid (below_drewNs HBA.out n2)
                    generalize wA.drewN n2 = wB at *
                    go_wp2_with fail
                    have HQC : Hid (Wq wc (wB.alloc (.cells #[] 23)) (.slice (some ⟨wB.heap.size, 0, none⟩) 0 0) []) := Lib.hid (Wq.start HBB.out)
                    have HWC : Hid (Wk (wB.alloc (.cells #[] 23)) (.slice (some ⟨wB.heap.size, 0, none⟩) 0 0) wc.heap.size key) := Lib.hid (HWB.out.turn _ own_new)
                    have HBC := Lib.hid HQC.out.bel
                    generalize wB.alloc (.cells #[] 23) = wC at *
                    generalize Value.slice (some ⟨wB.heap.size, 0, none⟩) 0 0 = VC at *
                    refine hK _ _ (fun _ => HKC.out (HPd.out.bel.trans (HBC.out.mono HPd.out.bel.size))) ?_
                    clear hK K
                    refine wpMix_loud rfl rfl (fun n3 K hK => ?_)
                    have HQD := Lib.hid (HQC.out.drewN n3)
                    have HWD := Lib.hid (HWC.out.drewN n3)
                    have HBD := Lib.hid (below_drewNs HBC.out n3)
                    generalize wC.drewN n3 = wD at *
                    refine wpList_words wD rfl (.tmp 102) (.tmp 105) rfl VC v1 [] (A.take 0) rfl HQD.out.wl rfl (HT1.out _ HBD.out) (by first | (simp; done) | (simp; omega)) ?_
                    intro AE cE wE hcE hvE hfE
                    generalize Value.slice AE _ cE = VE at *
                    have HQE := Lib.hid (HQD.out.app hvE hfE)
                    have HWE := Lib.hid (HWD.out.app hvE hfE HWD.out.lt)
                    have HBE := Lib.hid HQE.out.bel
                    clear hcE hvE hfE
                    go_wp2_with fail
                    refine hK _ _ (fun _ => HKC.out (HPd.out.bel.trans (HBE.out.mono HPd.out.bel.size))) ?_
                    clear hK K
                    refine wpMix_loud rfl rfl (fun n4 K hK => ?_)
                    have HQF := Lib.hid (HQE.out.drewN n4)
                    have HWF := Lib.hid (HWE.out.drewN n4)
                    have HBF := Lib.hid (below_drewNs HBE.out n4)
                    generalize wE.drewN n4 = wF at *
                    refine wpList_words wF rfl (.tmp 106) (.tmp 111) rfl VE LA ([] ++ (A.take 0)) [key] rfl HQF.out.wl rfl (by rw [← hEA.out]; exact HWF.out.lies) (by first | (simp; done) | (simp; omega)) ?_
                    intro AG cG wG hcG hvG hfG
                    generalize Value.slice AG _ cG = VG at *
                    have HQG := Lib.hid (HQF.out.app hvG hfG)
                    have HWG := Lib.hid (HWF.out.app hvG hfG HWF.out.lt)
                    have HBG := Lib.hid HQG.out.bel
                    clear hcG hvG hfG
                    go_wp2_with fail
                    refine hK _ _ (fun _ => HKC.out (HPd.out.bel.trans (HBG.out.mono HPd.out.bel.size))) ?_
                    clear hK K
                    refine wpMix_loud rfl rfl (fun n5 K hK => ?_)
                    have HQH := Lib.hid (HQG.out.drewN n5)
                    have HWH := Lib.hid (HWG.out.drewN n5)
                    have HBH := Lib.hid (below_drewNs HBG.out n5)
                    generalize wG.drewN n5 = wH at *
                    refine wpList_words wH rfl (.tmp 112) (.tmp 115) rfl VG v1 (([] ++ (A.take 0)) ++ [key]) (A.drop 0) rfl HQH.out.wl rfl (HT2.out _ HBH.out) (by first | (simp; done) | (simp; omega)) ?_
                    intro AI cI wI hcI hvI hfI
                    generalize Value.slice AI _ cI = VI at *
                    have HQI := Lib.hid (HQH.out.app hvI hfI)
                    have HWI := Lib.hid (HWH.out.app hvI hfI HWH.out.lt)
                    have HBI := Lib.hid HQI.out.bel
                    clear hcI hvI hfI
                    go_wp2_with fail
                    refine hK _ _ (fun _ => HKC.out (HPd.out.bel.trans (HBI.out.mono HPd.out.bel.size))) ?_
                    clear hK K
                    ((first | refine wpMix_pure rfl rfl (fun K hK => ?_) | refine wpMix_loc rfl rfl (fun K hK => ?_) | refine wpMix_any rfl rfl (fun K hK => ?_)); go_simp; refine hK _ _ ?_; clear hK K)
                    refine wpMix_nil (fun m9 => ?_)
                    have HQz := Lib.hid (HQI.out.drewN m9)
                    generalize wI.drewN m9 = wz at *
                    obtain ⟨Az, cz, rfl, hcz⟩ := HQz.out.wl.shape
                    have hins := HINS.out
                    have hlen : ((([] ++ (A.take 0)) ++ [key]) ++ (A.drop 0)).length = (insK A key).length := by rw [hins]; simp [show A = [] from List.length_eq_zero_iff.1 hA0]
                    have HPz := Lib.hid (HPd.out.swap HQz.out.bel HQz.out.wl HQz.out.ge)
                    rw [hlen] at HPz hcz ⊢
                    rw [show ((([] ++ (A.take 0)) ++ [key]) ++ (A.drop 0)) = insK A key by rw [hins]; simp [show A = [] from List.length_eq_zero_iff.1 hA0]] at HPz
                    clear hlen hins
                    have hil : (insK A key).length ≤ j + 1 := by rw [HINS.out]; have := HTL.out; simp; omega
                    go_wp2
                    go_roundg g
                    case measure => omega
                    case rel => exact ⟨j + 1, s7, F7, insK A key, Az, cz, g7, by have := HG.out; omega, rfl, hcz, by go_num, hil, HAI, HS7, HPz, b7⟩
                · refine wp_region_mix3 (fun W' => W'.cell? ⟨gz, oz + j, none⟩ = some (.int .u64 key)) [2,3,3,3,2,3,3,3,0,2,2,3,3,3,2,3] [1,2,3,5,6,7,8,11,12,13] 0 9 4 [0,4,10,14,15] [9,10,14,15] [4,10,14,15] (by kernel_rfl) (by kernel_rfl) (fun _ _ h => h) hkc ?_
                  have hce : (cv = a) = False ∨ cv = a := by
                    by_cases h : cv = a
                    · exact .inr h
                    · exact .inl (eq_false h)
                  rcases hce with hce | rfl
                  · have HT1 : Hid (∀ w', Below wc.heap.size wc w' → Lies w' (.slice (some ⟨gy, oy, none⟩) a cv) (A.take a)) := Lib.hid fun w' hb => HTA.out.below hb
                    have HT2 : Hid (∀ w', Below wc.heap.size wc w' → Lies w' (.slice (some ⟨gy, oy + a, none⟩) (A.length - a) (cv - a)) (A.drop a)) := Lib.hid fun w' hb => (Lies.drop HWA.out.lies (i := a) (by omega)).below hb
                    (repeat (first | ((first | refine wpMixE_pure rfl rfl (fun K hK => ?_) | refine wpMixE_any rfl rfl (fun K hK => ?_)); go_simp; refine hK _ _ ?_; clear hK K) | (refine wpMixE_any rfl rfl (fun K hK => ?_); rw [if_pos (by go_simp)]; apply Exists.intro; refine And.intro (fun w2 hS2 => ?_) (hK _ _ ?_); (focus (obtain hs0 := hS2; go_simp; rfl)); clear hK K)))
                    generalize Value.slice (some ⟨gy, oy, none⟩) a cv = v1 at HT1 ⊢
                    generalize Value.slice (some ⟨gy, oy + a, none⟩) (A.length - a) (cv - a) = v2 at HT2 ⊢
                    refine wpMixE_nil ⟨wpMixE_loud rfl rfl (fun n1 K hK => ?_), wpMix_loud rfl rfl (fun n1 K hK => ?_)⟩
                    · have HB0 := Lib.hid (below_drewNs (Below.refl wc.heap.size wc) (1 + n1))
                      go_wp2_with fail
                      have HQA : Hid (Wq wc ((wc.drewN (1 + n1)).alloc (.cells #[] 23)) (.slice (some ⟨wc.heap.size, 0, none⟩) 0 0) []) := Lib.hid (Wq.start HB0.out)
                      have HBA := Lib.hid HQA.out.bel
                      generalize (wc.drewN (1 + n1)).alloc (.cells #[] 23) = wA at *
                      generalize Value.slice (some ⟨wc.heap.size, 0, none⟩) 0 0 = VA at *
                      refine hK _ _ (fun _ => HKC.out (HPd.out.bel.trans (HBA.out.mono HPd.out.bel.size))) ?_
                      clear hK K
                      refine wpMixE_nil ⟨wpMix_loud rfl rfl (fun n2 K hK => ?_), wpMix_loud rfl rfl (fun n2 K hK => ?_)⟩
                      · have HQB := Lib.hid (HQA.out.drewN n2)
                        have HBB := Lib.hid (below_drewNs HBA.out n2)
                        generalize wA.drewN n2 = wB at *
                        refine wpList_words wB rfl (.tmp 102) (.tmp 105) rfl VA v1 [] (A.take a) rfl HQB.out.wl rfl (HT1.out _ HBB.out) (by first | (simp; done) | (simp; omega)) ?_
                        intro AC cC wC hcC hvC hfC
                        generalize Value.slice AC _ cC = VC at *
                        have HQC := Lib.hid (HQB.out.app hvC hfC)
                        have HBC := Lib.hid HQC.out.bel
                        clear hcC hvC hfC
                        go_wp2_with fail
                        refine hK _ _ (fun _ => HKC.out (HPd.out.bel.trans (HBC.out.mono HPd.out.bel.size))) ?_
                        clear hK K
                        refine wpMix_loud rfl rfl (fun n3 K hK => ?_)
                        have HQD := Lib.hid (HQC.out.drewN n3)
                        have HBD := Lib.hid (below_drewNs HBC.out n3)
                        generalize wC.drewN n3 = wD at *
                        go_wp2_with fail
                        have HWE : Hid (Wk (wD.alloc (.cells #[.int .u64 key] 23)) VC wD.heap.size key) := Lib.hid (Wk.new wD VC (fun k hk => HQD.out.wl.lt k hk) key)
                        have HQE := Lib.hid (HQD.out.alloc (.cells #[.int .u64 key] 23))
                        have HBE := Lib.hid (HBD.out.alloc HBD.out.size (.cells #[.int .u64 key] 23))
                        generalize wD.alloc (.cells #[.int .u64 key] 23) = wE at *
                        generalize hEE : Value.slice (some ⟨wD.heap.size, 0, none⟩) 1 1 = LE
                        replace hEE := Lib.hid hEE
                        generalize wD.heap.size = g9 at *
                        refine hK _ _ (fun _ => HKC.out (HPd.out.bel.trans (HBE.out.mono HPd.out.bel.size))) ?_
                        clear hK K
                        refine wpMix_loud rfl rfl (fun n4 K hK => ?_)
                        have HQF := Lib.hid (HQE.out.drewN n4)
                        have HWF := Lib.hid (HWE.out.drewN n4)
                        have HBF := Lib.hid (below_drewNs HBE.out n4)
                        generalize wE.drewN n4 = wF at *
                        refine wpList_words wF rfl (.tmp 106) (.tmp 111) rfl VC LE ([] ++ (A.take a)) [key] rfl HQF.out.wl rfl (by rw [← hEE.out]; exact HWF.out.lies) (by first | (simp; done) | (simp; omega)) ?_
                        intro AG cG wG hcG hvG hfG
                        generalize Value.slice AG _ cG = VG at *
                        have HQG := Lib.hid (HQF.out.app hvG hfG)
                        have HWG := Lib.hid (HWF.out.app hvG hfG HWF.out.lt)
                        have HBG := Lib.hid HQG.out.bel
                        clear hcG hvG hfG
                        go_wp2_with fail
                        refine hK _ _ (fun _ => HKC.out (HPd.out.bel.trans (HBG.out.mono HPd.out.bel.size))) ?_
                        clear hK K
                        refine wpMix_loud rfl rfl (fun n5 K hK => ?_)
                        have HQH := Lib.hid (HQG.out.drewN n5)
                        have HWH := Lib.hid (HWG.out.drewN n5)
                        have HBH := Lib.hid (below_drewNs HBG.out n5)
                        generalize wG.drewN n5 = wH at *
                        refine wpList_words wH rfl (.tmp 112) (.tmp 115) rfl VG v2 (([] ++ (A.take a)) ++ [key]) (A.drop a) rfl HQH.out.wl rfl (HT2.out _ HBH.out) (by first | (simp; done) | (simp; omega)) ?_
                        intro AI cI wI hcI hvI hfI
                        generalize Value.slice AI _ cI = VI at *
                        have HQI := Lib.hid (HQH.out.app hvI hfI)
                        have HWI := Lib.hid (HWH.out.app hvI hfI HWH.out.lt)
                        have HBI := Lib.hid HQI.out.bel
                        clear hcI hvI hfI
                        go_wp2_with fail
                        refine hK _ _ (fun _ => HKC.out (HPd.out.bel.trans (HBI.out.mono HPd.out.bel.size))) ?_
                        clear hK K
                        ((first | refine wpMix_pure rfl rfl (fun K hK => ?_) | refine wpMix_loc rfl rfl (fun K hK => ?_) | refine wpMix_any rfl rfl (fun K hK => ?_)); go_simp; refine hK _ _ ?_; clear hK K)
                        refine wpMix_nil (fun m9 => ?_)
                        have HQz := Lib.hid (HQI.out.drewN m9)
                        generalize wI.drewN m9 = wz at *
                        obtain ⟨Az, cz, rfl, hcz⟩ := HQz.out.wl.shape
                        have hins := HINS.out
                        have hlen : ((([] ++ (A.take a)) ++ [key]) ++ (A.drop a)).length = (insK A key).length := by rw [hins]; simp
                        have HPz := Lib.hid (HPd.out.swap HQz.out.bel HQz.out.wl HQz.out.ge)
                        rw [hlen] at HPz hcz ⊢
                        rw [show ((([] ++ (A.take a)) ++ [key]) ++ (A.drop a)) = insK A key by rw [hins]; simp] at HPz
                        clear hlen hins
                        have hil : (insK A key).length ≤ j + 1 := by rw [HINS.out]; have := HTL.out; simp; omega
                        go_wp2
                        go_roundg g
                        case measure => omega
                        case rel => exact ⟨j + 1, s7, F7, insK A key, Az, cz, g7, by have := HG.out; omega, rfl, hcz, by go_num, hil, HAI, HS7, HPz, b7⟩
                      · have HQB := Lib.hid (HQA.out.drewN n2)
                        have HBB := Lib.hid (below_drewNs HBA.out n2)
                        generalize wA.drewN n2 = wB at *
                        go_wp2_with fail
                        have HWC : Hid (Wk (wB.alloc (.cells #[.int .u64 key] 23)) VA wB.heap.size key) := Lib.hid (Wk.new wB VA (fun k hk => HQB.out.wl.lt k hk) key)
                        have HQC := Lib.hid (HQB.out.alloc (.cells #[.int .u64 key] 23))
                        have HBC := Lib.hid (HBB.out.alloc HBB.out.size (.cells #[.int .u64 key] 23))
                        generalize wB.alloc (.cells #[.int .u64 key] 23) = wC at *
                        generalize hEC : Value.slice (some ⟨wB.heap.size, 0, none⟩) 1 1 = LC
                        replace hEC := Lib.hid hEC
                        generalize wB.heap.size = g9 at *
                        refine hK _ _ (fun _ => HKC.out (HPd.out.bel.trans (HBC.out.mono HPd.out.bel.size))) ?_
                        clear hK K
                        refine wpMix_loud rfl rfl (fun n3 K hK => ?_)
                        have HQD := Lib.hid (HQC.out.drewN n3)
                        have HWD := Lib.hid (HWC.out.drewN n3)
                        have HBD := Lib.hid (below_drewNs HBC.out n3)
                        generalize wC.drewN n3 = wD at *
                        refine wpList_words wD rfl (.tmp 102) (.tmp 105) rfl VA v1 [] (A.take a) rfl HQD.out.wl rfl (HT1.out _ HBD.out) (by first | (simp; done) | (simp; omega)) ?_
                        intro AE cE wE hcE hvE hfE
                        generalize Value.slice AE _ cE = VE at *
                        have HQE := Lib.hid (HQD.out.app hvE hfE)
                        have HWE := Lib.hid (HWD.out.app hvE hfE HWD.out.lt)
                        have HBE := Lib.hid HQE.out.bel
                        clear hcE hvE hfE
                        go_wp2_with fail
                        refine hK _ _ (fun _ => HKC.out (HPd.out.bel.trans (HBE.out.mono HPd.out.bel.size))) ?_
                        clear hK K
                        refine wpMix_loud rfl rfl (fun n4 K hK => ?_)
                        have HQF := Lib.hid (HQE.out.drewN n4)
                        have HWF := Lib.hid (HWE.out.drewN n4)
                        have HBF := Lib.hid (below_drewNs HBE.out n4)
                        generalize wE.drewN n4 = wF at *
                        refine wpList_words wF rfl (.tmp 106) (.tmp 111) rfl VE LC ([] ++ (A.take a)) [key] rfl HQF.out.wl rfl (by rw [← hEC.out]; exact HWF.out.lies) (by first | (simp; done) | (simp; omega)) ?_
                        intro AG cG wG hcG hvG hfG
                        generalize Value.slice AG _ cG = VG at *
                        have HQG := Lib.hid (HQF.out.app hvG hfG)
                        have HWG := Lib.hid (HWF.out.app hvG hfG HWF.out.lt)
                        have HBG := Lib.hid HQG.out.bel
                        clear hcG hvG hfG
                        go_wp2_with fail
                        refine hK _ _ (fun _ => HKC.out (HPd.out.bel.trans (HBG.out.mono HPd.out.bel.size))) ?_
                        clear hK K
                        refine wpMix_loud rfl rfl (fun n5 K hK => ?_)
                        have HQH := Lib.hid (HQG.out.drewN n5)
                        have HWH := Lib.hid (HWG.out.drewN n5)
                        have HBH := Lib.hid (below_drewNs HBG.out n5)
                        generalize wG.drewN n5 = wH at *
                        refine wpList_words wH rfl (.tmp 112) (.tmp 115) rfl VG v2 (([] ++ (A.take a)) ++ [key]) (A.drop a) rfl HQH.out.wl rfl (HT2.out _ HBH.out) (by first | (simp; done) | (simp; omega)) ?_
                        intro AI cI wI hcI hvI hfI
                        generalize Value.slice AI _ cI = VI at *
                        have HQI := Lib.hid (HQH.out.app hvI hfI)
                        have HWI := Lib.hid (HWH.out.app hvI hfI HWH.out.lt)
                        have HBI := Lib.hid HQI.out.bel
                        clear hcI hvI hfI
                        go_wp2_with fail
                        refine hK _ _ (fun _ => HKC.out (HPd.out.bel.trans (HBI.out.mono HPd.out.bel.size))) ?_
                        clear hK K
                        ((first | refine wpMix_pure rfl rfl (fun K hK => ?_) | refine wpMix_loc rfl rfl (fun K hK => ?_) | refine wpMix_any rfl rfl (fun K hK => ?_)); go_simp; refine hK _ _ ?_; clear hK K)
                        refine wpMix_nil (fun m9 => ?_)
                        have HQz := Lib.hid (HQI.out.drewN m9)
                        generalize wI.drewN m9 = wz at *
                        obtain ⟨Az, cz, rfl, hcz⟩ := HQz.out.wl.shape
                        have hins := HINS.out
                        have hlen : ((([] ++ (A.take a)) ++ [key]) ++ (A.drop a)).length = (insK A key).length := by rw [hins]; simp
                        have HPz := Lib.hid (HPd.out.swap HQz.out.bel HQz.out.wl HQz.out.ge)
                        rw [hlen] at HPz hcz ⊢
                        rw [show ((([] ++ (A.take a)) ++ [key]) ++ (A.drop a)) = insK A key by rw [hins]; simp] at HPz
                        clear hlen hins
                        have hil : (insK A key).length ≤ j + 1 := by rw [HINS.out]; have := HTL.out; simp; omega
                        go_wp2
                        go_roundg g
                        case measure => omega
                        case rel => exact ⟨j + 1, s7, F7, insK A key, Az, cz, g7, by have := HG.out; omega, rfl, hcz, by go_num, hil, HAI, HS7, HPz, b7⟩
                    · have HB0 := Lib.hid (below_drewNs (Below.refl wc.heap.size wc) (1 + n1))
                      go_wp2_with fail
                      have HWA : Hid (Wk ((wc.drewN (1 + n1)).alloc (.cells #[.int .u64 key] 23)) (.slice none 0 0) wc.heap.size key) := Lib.hid (Wk.new (wc.drewN (1 + n1)) (.slice none 0 0) (fun k hk => nomatch hk) key)
                      have HBA := Lib.hid (HB0.out.alloc HB0.out.size (.cells #[.int .u64 key] 23))
                      generalize (wc.drewN (1 + n1)).alloc (.cells #[.int .u64 key] 23) = wA at *
                      generalize hEA : Value.slice (some ⟨wc.heap.size, 0, none⟩) 1 1 = LA
                      replace hEA := Lib.hid hEA
                      refine hK _ _ (fun _ => HKC.out (HPd.out.bel.trans (HBA.out.mono HPd.out.bel.size))) ?_
                      clear hK K
                      refine wpMix_loud rfl rfl (fun n2 K hK => ?_)
                      have HWB := Lib.hid (HWA.out.drewN n2)
                      have HBB := Lib.hid (below_drewNs HBA.out n2)
                      generalize wA.drewN n2 = wB at *
                      go_wp2_with fail
                      have HQC : Hid (Wq wc (wB.alloc (.cells #[] 23)) (.slice (some ⟨wB.heap.size, 0, none⟩) 0 0) []) := Lib.hid (Wq.start HBB.out)
                      have HWC : Hid (Wk (wB.alloc (.cells #[] 23)) (.slice (some ⟨wB.heap.size, 0, none⟩) 0 0) wc.heap.size key) := Lib.hid (HWB.out.turn _ own_new)
                      have HBC := Lib.hid HQC.out.bel
                      generalize wB.alloc (.cells #[] 23) = wC at *
                      generalize Value.slice (some ⟨wB.heap.size, 0, none⟩) 0 0 = VC at *
                      refine hK _ _ (fun _ => HKC.out (HPd.out.bel.trans (HBC.out.mono HPd.out.bel.size))) ?_
                      clear hK K
                      refine wpMix_loud rfl rfl (fun n3 K hK => ?_)
                      have HQD := Lib.hid (HQC.out.drewN n3)
                      have HWD := Lib.hid (HWC.out.drewN n3)
                      have HBD := Lib.hid (below_drewNs HBC.out n3)
                      generalize wC.drewN n3 = wD at *
                      refine wpList_words wD rfl (.tmp 102) (.tmp 105) rfl VC v1 [] (A.take a) rfl HQD.out.wl rfl (HT1.out _ HBD.out) (by first | (simp; done) | (simp; omega)) ?_
                      intro AE cE wE hcE hvE hfE
                      generalize Value.slice AE _ cE = VE at *
                      have HQE := Lib.hid (HQD.out.app hvE hfE)
                      have HWE := Lib.hid (HWD.out.app hvE hfE HWD.out.lt)
                      have HBE := Lib.hid HQE.out.bel
                      clear hcE hvE hfE
                      go_wp2_with fail
                      refine hK _ _ (fun _ => HKC.out (HPd.out.bel.trans (HBE.out.mono HPd.out.bel.size))) ?_
                      clear hK K
                      refine wpMix_loud rfl rfl (fun n4 K hK => ?_)
                      have HQF := Lib.hid (HQE.out.drewN n4)
                      have HWF := Lib.hid (HWE.out.drewN n4)
                      have HBF := Lib.hid (below_drewNs HBE.out n4)
                      generalize wE.drewN n4 = wF at *
                      refine wpList_words wF rfl (.tmp 106) (.tmp 111) rfl VE LA ([] ++ (A.take a)) [key] rfl HQF.out.wl rfl (by rw [← hEA.out]; exact HWF.out.lies) (by first | (simp; done) | (simp; omega)) ?_
                      intro AG cG wG hcG hvG hfG
                      generalize Value.slice AG _ cG = VG at *
                      have HQG := Lib.hid (HQF.out.app hvG hfG)
                      have HWG := Lib.hid (HWF.out.app hvG hfG HWF.out.lt)
                      have HBG := Lib.hid HQG.out.bel
                      clear hcG hvG hfG
                      go_wp2_with fail
                      refine hK _ _ (fun _ => HKC.out (HPd.out.bel.trans (HBG.out.mono HPd.out.bel.size))) ?_
                      clear hK K
                      refine wpMix_loud rfl rfl (fun n5 K hK => ?_)
                      have HQH := Lib.hid (HQG.out.drewN n5)
                      have HWH := Lib.hid (HWG.out.drewN n5)
                      have HBH := Lib.hid (below_drewNs HBG.out n5)
                      generalize wG.drewN n5 = wH at *
                      refine wpList_words wH rfl (.tmp 112) (.tmp 115) rfl VG v2 (([] ++ (A.take a)) ++ [key]) (A.drop a) rfl HQH.out.wl rfl (HT2.out _ HBH.out) (by first | (simp; done) | (simp; omega)) ?_
                      intro AI cI wI hcI hvI hfI
                      generalize Value.slice AI _ cI = VI at *
                      have HQI := Lib.hid (HQH.out.app hvI hfI)
                      have HWI := Lib.hid (HWH.out.app hvI hfI HWH.out.lt)
                      have HBI := Lib.hid HQI.out.bel
                      clear hcI hvI hfI
                      go_wp2_with fail
                      refine hK _ _ (fun _ => HKC.out (HPd.out.bel.trans (HBI.out.mono HPd.out.bel.size))) ?_
                      clear hK K
                      ((first | refine wpMix_pure rfl rfl (fun K hK => ?_) | refine wpMix_loc rfl rfl (fun K hK => ?_) | refine wpMix_any rfl rfl (fun K hK => ?_)); go_simp; refine hK _ _ ?_; clear hK K)
                      refine wpMix_nil (fun m9 => ?_)
                      have HQz := Lib.hid (HQI.out.drewN m9)
                      generalize wI.drewN m9 = wz at *
                      obtain ⟨Az, cz, rfl, hcz⟩ := HQz.out.wl.shape
                      have hins := HINS.out
                      have hlen : ((([] ++ (A.take a)) ++ [key]) ++ (A.drop a)).length = (insK A key).length := by rw [hins]; simp
                      have HPz := Lib.hid (HPd.out.swap HQz.out.bel HQz.out.wl HQz.out.ge)
                      rw [hlen] at HPz hcz ⊢
                      rw [show ((([] ++ (A.take a)) ++ [key]) ++ (A.drop a)) = insK A key by rw [hins]; simp] at HPz
                      clear hlen hins
                      have hil : (insK A key).length ≤ j + 1 := by rw [HINS.out]; have := HTL.out; simp; omega
                      go_wp2
                      go_roundg g
                      case measure => omega
                      case rel => exact ⟨j + 1, s7, F7, insK A key, Az, cz, g7, by have := HG.out; omega, rfl, hcz, by go_num, hil, HAI, HS7, HPz, b7⟩
                  · have HT1 : Hid (∀ w', Below wc.heap.size wc w' → Lies w' (.slice (some ⟨gy, oy, none⟩) cv cv) (A.take cv)) := Lib.hid fun w' hb => HTA.out.below hb
                    have HT2 : Hid (∀ w', Below wc.heap.size wc w' → Lies w' (.slice (some ⟨gy, oy, none⟩) 0 0) (A.drop cv)) := Lib.hid fun w' _ => by
                      rw [List.drop_of_length_le (by omega)]
                      exact ⟨_, 0, rfl, Nat.le_refl _, fun _ => rfl, fun j hj => by simp at hj⟩
                    (repeat (first | ((first | refine wpMixE_pure rfl rfl (fun K hK => ?_) | refine wpMixE_any rfl rfl (fun K hK => ?_)); go_simp; refine hK _ _ ?_; clear hK K) | (refine wpMixE_any rfl rfl (fun K hK => ?_); rw [if_pos (by go_simp)]; apply Exists.intro; refine And.intro (fun w2 hS2 => ?_) (hK _ _ ?_); (focus (obtain hs0 := hS2; go_simp; rfl)); clear hK K)))
                    generalize Value.slice (some ⟨gy, oy, none⟩) cv cv = v1 at HT1 ⊢
                    generalize Value.slice (some ⟨gy, oy, none⟩) 0 0 = v2 at HT2 ⊢
                    refine wpMixE_nil ⟨wpMixE_loud rfl rfl (fun n1 K hK => ?_), wpMix_loud rfl rfl (fun n1 K hK => ?_)⟩
                    · have HB0 := Lib.hid (below_drewNs (Below.refl wc.heap.size wc) (1 + n1))
                      go_wp2_with fail
                      have HQA : Hid (Wq wc ((wc.drewN (1 + n1)).alloc (.cells #[] 23)) (.slice (some ⟨wc.heap.size, 0, none⟩) 0 0) []) := Lib.hid (Wq.start HB0.out)
                      have HBA := Lib.hid HQA.out.bel
                      generalize (wc.drewN (1 + n1)).alloc (.cells #[] 23) = wA at *
                      generalize Value.slice (some ⟨wc.heap.size, 0, none⟩) 0 0 = VA at *
                      refine hK _ _ (fun _ => HKC.out (HPd.out.bel.trans (HBA.out.mono HPd.out.bel.size))) ?_
                      clear hK K
                      refine wpMixE_nil ⟨wpMix_loud rfl rfl (fun n2 K hK => ?_), wpMix_loud rfl rfl (fun n2 K hK => ?_)⟩
                      · have HQB := Lib.hid (HQA.out.drewN n2)
                        have HBB := Lib.hid (below_drewNs HBA.out n2)
                        generalize wA.drewN n2 = wB at *
                        refine wpList_words wB rfl (.tmp 102) (.tmp 105) rfl VA v1 [] (A.take cv) rfl HQB.out.wl rfl (HT1.out _ HBB.out) (by first | (simp; done) | (simp; omega)) ?_
                        intro AC cC wC hcC hvC hfC
                        generalize Value.slice AC _ cC = VC at *
                        have HQC := Lib.hid (HQB.out.app hvC hfC)
                        have HBC := Lib.hid HQC.out.bel
                        clear hcC hvC hfC
                        go_wp2_with fail
                        refine hK _ _ (fun _ => HKC.out (HPd.out.bel.trans (HBC.out.mono HPd.out.bel.size))) ?_
                        clear hK K
                        refine wpMix_loud rfl rfl (fun n3 K hK => ?_)
                        have HQD := Lib.hid (HQC.out.drewN n3)
                        have HBD := Lib.hid (below_drewNs HBC.out n3)
                        generalize wC.drewN n3 = wD at *
                        go_wp2_with fail
                        have HWE : Hid (Wk (wD.alloc (.cells #[.int .u64 key] 23)) VC wD.heap.size key) := Lib.hid (Wk.new wD VC (fun k hk => HQD.out.wl.lt k hk) key)
                        have HQE := Lib.hid (HQD.out.alloc (.cells #[.int .u64 key] 23))
                        have HBE := Lib.hid (HBD.out.alloc HBD.out.size (.cells #[.int .u64 key] 23))
                        generalize wD.alloc (.cells #[.int .u64 key] 23) = wE at *
                        generalize hEE : Value.slice (some ⟨wD.heap.size, 0, none⟩) 1 1 = LE
                        replace hEE := Lib.hid hEE
                        generalize wD.heap.size = g9 at *
                        refine hK _ _ (fun _ => HKC.out (HPd.out.bel.trans (HBE.out.mono HPd.out.bel.size))) ?_
                        clear hK K
                        refine wpMix_loud rfl rfl (fun n4 K hK => ?_)
                        have HQF := Lib.hid (HQE.out.drewN n4)
                        have HWF := Lib.hid (HWE.out.drewN n4)
                        have HBF := Lib.hid (below_drewNs HBE.out n4)
                        generalize wE.drewN n4 = wF at *
                        refine wpList_words wF rfl (.tmp 106) (.tmp 111) rfl VC LE ([] ++ (A.take cv)) [key] rfl HQF.out.wl rfl (by rw [← hEE.out]; exact HWF.out.lies) (by first | (simp; done) | (simp; omega)) ?_
                        intro AG cG wG hcG hvG hfG
                        generalize Value.slice AG _ cG = VG at *
                        have HQG := Lib.hid (HQF.out.app hvG hfG)
                        have HWG := Lib.hid (HWF.out.app hvG hfG HWF.out.lt)
                        have HBG := Lib.hid HQG.out.bel
                        clear hcG hvG hfG
                        go_wp2_with fail
                        refine hK _ _ (fun _ => HKC.out (HPd.out.bel.trans (HBG.out.mono HPd.out.bel.size))) ?_
                        clear hK K
                        refine wpMix_loud rfl rfl (fun n5 K hK => ?_)
                        have HQH := Lib.hid (HQG.out.drewN n5)
                        have HWH := Lib.hid (HWG.out.drewN n5)
                        have HBH := Lib.hid (below_drewNs HBG.out n5)
                        generalize wG.drewN n5 = wH at *
                        refine wpList_words wH rfl (.tmp 112) (.tmp 115) rfl VG v2 (([] ++ (A.take cv)) ++ [key]) (A.drop cv) rfl HQH.out.wl rfl (HT2.out _ HBH.out) (by first | (simp; done) | (simp; omega)) ?_
                        intro AI cI wI hcI hvI hfI
                        generalize Value.slice AI _ cI = VI at *
                        have HQI := Lib.hid (HQH.out.app hvI hfI)
                        have HWI := Lib.hid (HWH.out.app hvI hfI HWH.out.lt)
                        have HBI := Lib.hid HQI.out.bel
                        clear hcI hvI hfI
                        go_wp2_with fail
                        refine hK _ _ (fun _ => HKC.out (HPd.out.bel.trans (HBI.out.mono HPd.out.bel.size))) ?_
                        clear hK K
                        ((first | refine wpMix_pure rfl rfl (fun K hK => ?_) | refine wpMix_loc rfl rfl (fun K hK => ?_) | refine wpMix_any rfl rfl (fun K hK => ?_)); go_simp; refine hK _ _ ?_; clear hK K)
                        refine wpMix_nil (fun m9 => ?_)
                        have HQz := Lib.hid (HQI.out.drewN m9)
                        generalize wI.drewN m9 = wz at *
                        obtain ⟨Az, cz, rfl, hcz⟩ := HQz.out.wl.shape
                        have hins := HINS.out
                        have hlen : ((([] ++ (A.take cv)) ++ [key]) ++ (A.drop cv)).length = (insK A key).length := by rw [hins]; simp [show A.drop cv = [] from List.drop_of_length_le (by omega)]
                        have HPz := Lib.hid (HPd.out.swap HQz.out.bel HQz.out.wl HQz.out.ge)
                        rw [hlen] at HPz hcz ⊢
                        rw [show ((([] ++ (A.take cv)) ++ [key]) ++ (A.drop cv)) = insK A key by rw [hins]; simp [show A.drop cv = [] from List.drop_of_length_le (by omega)]] at HPz
                        clear hlen hins
                        have hil : (insK A key).length ≤ j + 1 := by rw [HINS.out]; have := HTL.out; simp; omega
                        go_wp2
                        go_roundg g
                        case measure => omega
                        case rel => exact ⟨j + 1, s7, F7, insK A key, Az, cz, g7, by have := HG.out; omega, rfl, hcz, by go_num, hil, HAI, HS7, HPz, b7⟩
                      · have HQB := Lib.hid (HQA.out.drewN n2)
                        have HBB := Lib.hid (below_drewNs HBA.out n2)
                        generalize wA.drewN n2 = wB at *
                        go_wp2_with fail
                        have HWC : Hid (Wk (wB.alloc (.cells #[.int .u64 key] 23)) VA wB.heap.size key) := Lib.hid (Wk.new wB VA (fun k hk => HQB.out.wl.lt k hk) key)
                        have HQC := Lib.hid (HQB.out.alloc (.cells #[.int .u64 key] 23))
                        have HBC := Lib.hid (HBB.out.alloc HBB.out.size (.cells #[.int .u64 key] 23))
                        generalize wB.alloc (.cells #[.int .u64 key] 23) = wC at *
                        generalize hEC : Value.slice (some ⟨wB.heap.size, 0, none⟩) 1 1 = LC
                        replace hEC := Lib.hid hEC
                        generalize wB.heap.size = g9 at *
                        refine hK _ _ (fun _ => HKC.out (HPd.out.bel.trans (HBC.out.mono HPd.out.bel.size))) ?_
                        clear hK K
                        refine wpMix_loud rfl rfl (fun n3 K hK => ?_)
                        have HQD := Lib.hid (HQC.out.drewN n3)
                        have HWD := Lib.hid (HWC.out.drewN n3)
                        have HBD := Lib.hid (below_drewNs HBC.out n3)
                        generalize wC.drewN n3 = wD at *
                        refine wpList_words wD rfl (.tmp 102) (.tmp 105) rfl VA v1 [] (A.take cv) rfl HQD.out.wl rfl (HT1.out _ HBD.out) (by first | (simp; done) | (simp; omega)) ?_
                        intro AE cE wE hcE hvE hfE
                        generalize Value.slice AE _ cE = VE at *
                        have HQE := Lib.hid (HQD.out.app hvE hfE)
                        have HWE := Lib.hid (HWD.out.app hvE hfE HWD.out.lt)
                        have HBE := Lib.hid HQE.out.bel
                        clear hcE hvE hfE
                        go_wp2_with fail
                        refine hK _ _ (fun _ => HKC.out (HPd.out.bel.trans (HBE.out.mono HPd.out.bel.size))) ?_
                        clear hK K
                        refine wpMix_loud rfl rfl (fun n4 K hK => ?_)
                        have HQF := Lib.hid (HQE.out.drewN n4)
                        have HWF := Lib.hid (HWE.out.drewN n4)
                        have HBF := Lib.hid (below_drewNs HBE.out n4)
                        generalize wE.drewN n4 = wF at *
                        refine wpList_words wF rfl (.tmp 106) (.tmp 111) rfl VE LC ([] ++ (A.take cv)) [key] rfl HQF.out.wl rfl (by rw [← hEC.out]; exact HWF.out.lies) (by first | (simp; done) | (simp; omega)) ?_
                        intro AG cG wG hcG hvG hfG
                        generalize Value.slice AG _ cG = VG at *
                        have HQG := Lib.hid (HQF.out.app hvG hfG)
                        have HWG := Lib.hid (HWF.out.app hvG hfG HWF.out.lt)
                        have HBG := Lib.hid HQG.out.bel
                        clear hcG hvG hfG
                        go_wp2_with fail
                        refine hK _ _ (fun _ => HKC.out (HPd.out.bel.trans (HBG.out.mono HPd.out.bel.size))) ?_
                        clear hK K
                        refine wpMix_loud rfl rfl (fun n5 K hK => ?_)
                        have HQH := Lib.hid (HQG.out.drewN n5)
                        have HWH := Lib.hid (HWG.out.drewN n5)
                        have HBH := Lib.hid (below_drewNs HBG.out n5)
                        generalize wG.drewN n5 = wH at *
                        refine wpList_words wH rfl (.tmp 112) (.tmp 115) rfl VG v2 (([] ++ (A.take cv)) ++ [key]) (A.drop cv) rfl HQH.out.wl rfl (HT2.out _ HBH.out) (by first | (simp; done) | (simp; omega)) ?_
                        intro AI cI wI hcI hvI hfI
                        generalize Value.slice AI _ cI = VI at *
                        have HQI := Lib.hid (HQH.out.app hvI hfI)
                        have HWI := Lib.hid (HWH.out.app hvI hfI HWH.out.lt)
                        have HBI := Lib.hid HQI.out.bel
                        clear hcI hvI hfI
                        go_wp2_with fail
                        refine hK _ _ (fun _ => HKC.out (HPd.out.bel.trans (HBI.out.mono HPd.out.bel.size))) ?_
                        clear hK K
                        ((first | refine wpMix_pure rfl rfl (fun K hK => ?_) | refine wpMix_loc rfl rfl (fun K hK => ?_) | refine wpMix_any rfl rfl (fun K hK => ?_)); go_simp; refine hK _ _ ?_; clear hK K)
                        refine wpMix_nil (fun m9 => ?_)
                        have HQz := Lib.hid (HQI.out.drewN m9)
                        generalize wI.drewN m9 = wz at *
                        obtain ⟨Az, cz, rfl, hcz⟩ := HQz.out.wl.shape
                        have hins := HINS.out
                        have hlen : ((([] ++ (A.take cv)) ++ [key]) ++ (A.drop cv)).length = (insK A key).length := by rw [hins]; simp [show A.drop cv = [] from List.drop_of_length_le (by omega)]
                        have HPz := Lib.hid (HPd.out.swap HQz.out.bel HQz.out.wl HQz.out.ge)
                        rw [hlen] at HPz hcz ⊢
                        rw [show ((([] ++ (A.take cv)) ++ [key]) ++ (A.drop cv)) = insK A key by rw [hins]; simp [show A.drop cv = [] from List.drop_of_length_le (by omega)]] at HPz
                        clear hlen hins
                        have hil : (insK A key).length ≤ j + 1 := by rw [HINS.out]; have := HTL.out; simp; omega
                        go_wp2
                        go_roundg g
                        case measure => omega
                        case rel => exact ⟨j + 1, s7, F7, insK A key, Az, cz, g7, by have := HG.out; omega, rfl, hcz, by go_num, hil, HAI, HS7, HPz, b7⟩
                    · have HB0 := Lib.hid (below_drewNs (Below.refl wc.heap.size wc) (1 + n1))
                      go_wp2_with fail
                      have HWA : Hid (Wk ((wc.drewN (1 + n1)).alloc (.cells #[.int .u64 key] 23)) (.slice none 0 0) wc.heap.size key) := Lib.hid (Wk.new (wc.drewN (1 + n1)) (.slice none 0 0) (fun k hk => nomatch hk) key)
                      have HBA := Lib.hid (HB0.out.alloc HB0.out.size (.cells #[.int .u64 key] 23))
                      generalize (wc.drewN (1 + n1)).alloc (.cells #[.int .u64 key] 23) = wA at *
                      generalize hEA : Value.slice (some ⟨wc.heap.size, 0, none⟩) 1 1 = LA
                      replace hEA := Lib.hid hEA
                      refine hK _ _ (fun _ => HKC.out (HPd.out.bel.trans (HBA.out.mono HPd.out.bel.size))) ?_
                      clear hK K
                      refine wpMix_loud rfl rfl (fun n2 K hK => ?_)
                      have HWB := Lib.hid (HWA.out.drewN n2)
                      have HBB := Lib.hid (below_drewNs HBA.out n2)
                      generalize wA.drewN n2 = wB at *
                      go_wp2_with fail
                      have HQC : Hid (Wq wc (wB.alloc (.cells #[] 23)) (.slice (some ⟨wB.heap.size, 0, none⟩) 0 0) []) := Lib.hid (Wq.start HBB.out)
                      have HWC : Hid (Wk (wB.alloc (.cells #[] 23)) (.slice (some ⟨wB.heap.size, 0, none⟩) 0 0) wc.heap.size key) := Lib.hid (HWB.out.turn _ own_new)
                      have HBC := Lib.hid HQC.out.bel
                      generalize wB.alloc (.cells #[] 23) = wC at *
                      generalize Value.slice (some ⟨wB.heap.size, 0, none⟩) 0 0 = VC at *
                      refine hK _ _ (fun _ => HKC.out (HPd.out.bel.trans (HBC.out.mono HPd.out.bel.size))) ?_
                      clear hK K
                      refine wpMix_loud rfl rfl (fun n3 K hK => ?_)
                      have HQD := Lib.hid (HQC.out.drewN n3)
                      have HWD := Lib.hid (HWC.out.drewN n3)
                      have HBD := Lib.hid (below_drewNs HBC.out n3)
                      generalize wC.drewN n3 = wD at *
                      refine wpList_words wD rfl (.tmp 102) (.tmp 105) rfl VC v1 [] (A.take cv) rfl HQD.out.wl rfl (HT1.out _ HBD.out) (by first | (simp; done) | (simp; omega)) ?_
                      intro AE cE wE hcE hvE hfE
                      generalize Value.slice AE _ cE = VE at *
                      have HQE := Lib.hid (HQD.out.app hvE hfE)
                      have HWE := Lib.hid (HWD.out.app hvE hfE HWD.out.lt)
                      have HBE := Lib.hid HQE.out.bel
                      clear hcE hvE hfE
                      go_wp2_with fail
                      refine hK _ _ (fun _ => HKC.out (HPd.out.bel.trans (HBE.out.mono HPd.out.bel.size))) ?_
                      clear hK K
                      refine wpMix_loud rfl rfl (fun n4 K hK => ?_)
                      have HQF := Lib.hid (HQE.out.drewN n4)
                      have HWF := Lib.hid (HWE.out.drewN n4)
                      have HBF := Lib.hid (below_drewNs HBE.out n4)
                      generalize wE.drewN n4 = wF at *
                      refine wpList_words wF rfl (.tmp 106) (.tmp 111) rfl VE LA ([] ++ (A.take cv)) [key] rfl HQF.out.wl rfl (by rw [← hEA.out]; exact HWF.out.lies) (by first | (simp; done) | (simp; omega)) ?_
                      intro AG cG wG hcG hvG hfG
                      generalize Value.slice AG _ cG = VG at *
                      have HQG := Lib.hid (HQF.out.app hvG hfG)
                      have HWG := Lib.hid (HWF.out.app hvG hfG HWF.out.lt)
                      have HBG := Lib.hid HQG.out.bel
                      clear hcG hvG hfG
                      go_wp2_with fail
                      refine hK _ _ (fun _ => HKC.out (HPd.out.bel.trans (HBG.out.mono HPd.out.bel.size))) ?_
                      clear hK K
                      refine wpMix_loud rfl rfl (fun n5 K hK => ?_)
                      have HQH := Lib.hid (HQG.out.drewN n5)
                      have HWH := Lib.hid (HWG.out.drewN n5)
                      have HBH := Lib.hid (below_drewNs HBG.out n5)
                      generalize wG.drewN n5 = wH at *
                      refine wpList_words wH rfl (.tmp 112) (.tmp 115) rfl VG v2 (([] ++ (A.take cv)) ++ [key]) (A.drop cv) rfl HQH.out.wl rfl (HT2.out _ HBH.out) (by first | (simp; done) | (simp; omega)) ?_
                      intro AI cI wI hcI hvI hfI
                      generalize Value.slice AI _ cI = VI at *
                      have HQI := Lib.hid (HQH.out.app hvI hfI)
                      have HWI := Lib.hid (HWH.out.app hvI hfI HWH.out.lt)
                      have HBI := Lib.hid HQI.out.bel
                      clear hcI hvI hfI
                      go_wp2_with fail
                      refine hK _ _ (fun _ => HKC.out (HPd.out.bel.trans (HBI.out.mono HPd.out.bel.size))) ?_
                      clear hK K
                      ((first | refine wpMix_pure rfl rfl (fun K hK => ?_) | refine wpMix_loc rfl rfl (fun K hK => ?_) | refine wpMix_any rfl rfl (fun K hK => ?_)); go_simp; refine hK _ _ ?_; clear hK K)
                      refine wpMix_nil (fun m9 => ?_)
                      have HQz := Lib.hid (HQI.out.drewN m9)
                      generalize wI.drewN m9 = wz at *
                      obtain ⟨Az, cz, rfl, hcz⟩ := HQz.out.wl.shape
                      have hins := HINS.out
                      have hlen : ((([] ++ (A.take cv)) ++ [key]) ++ (A.drop cv)).length = (insK A key).length := by rw [hins]; simp [show A.drop cv = [] from List.drop_of_length_le (by omega)]
                      have HPz := Lib.hid (HPd.out.swap HQz.out.bel HQz.out.wl HQz.out.ge)
                      rw [hlen] at HPz hcz ⊢
                      rw [show ((([] ++ (A.take cv)) ++ [key]) ++ (A.drop cv)) = insK A key by rw [hins]; simp [show A.drop cv = [] from List.drop_of_length_le (by omega)]] at HPz
                      clear hlen hins
                      have hil : (insK A key).length ≤ j + 1 := by rw [HINS.out]; have := HTL.out; simp; omega
                      go_wp2
                      go_roundg g
                      case measure => omega
                      case rel => exact ⟨j + 1, s7, F7, insK A key, Az, cz, g7, by have := HG.out; omega, rfl, hcz, by go_num, hil, HAI, HS7, HPz, b7⟩
    · obtain rfl : j = keys.length := by have := HG.out; omega
      obtain rfl : gk = 0 := by have := HG.out; omega
      have hA3 : (A.length : Int) ≤ 300 := by omega
      clear hj
      obtain ⟨b, k0, k3, z3, hP2⟩ := HP.out.ncalls 0
      have HP3 := Lib.hid hP2
      have HS3 : Hid (LSt { sy with calls := 0 } [] [] A (20 + 2 * (keys.length : Int)) gx) := Lib.hid HS.out
      have b3 : Bud { sy with calls := 0 } (3800000000 + 4) := by unfold Bud at *; simp only; omega
      clear hP2 HP HS bx
      go_wp2_with fail
      generalize wr.setCell ⟨b, 3, none⟩ (.int .i64 0) = w3 at *
      refine (plist_b (n := 3800000000) HP3.out.tx HP3.out.fits b3 (by omega) (by omega) (Fr.refl _ _)).mono ?_
      rintro _ w4 ⟨f, c, er, s4, q4, df, df', dc, dc', rfl, hL4⟩
      obtain ⟨ns, sy4, e4, hc4, h4⟩ := lst_list HS3.out b3
      obtain ⟨rfl, rfl, rfl, rfl⟩ : hdOr ns 0 = f ∧ (A.length : Int) = c ∧ 0 = er ∧ sy4 = s4 := by have := e4.symm.trans q4.out; simpa using this
      have hc5 : sy4.calls = 4 := by rw [hc4]; rfl
      obtain ⟨F4, hP4, b4⟩ := HP3.out.step hL4
      have hv : partv 2 (hdOr ns 0) A.length 0 = .agg #[.int .i64 2, .int .u64 (hdOr ns 0), .int .u64 (A.length : Int)] := if_pos rfl
      rw [hv]
      have HP5 := Lib.hid (hP4.part (hdOr ns 0) A.length)
      have HS5 := Lib.hid h4
      obtain ⟨b5, j0, j3, -, -⟩ := HP5.out.ncalls 0
      rw [hc5] at j3
      obtain ⟨c0, c1, c2⟩ := HP5.out.cell (List.mem_append_right _ (List.mem_singleton.2 rfl))
      simp only at c0 c1 c2
      clear HP3 HS3 hL4 q4 e4 h4 hP4 hv k0 k3 z3 hc4 hc5 b3
      go_wp2_with (go_at_call 17; refine (num_b _ _).mono ?_; rintro e _ ⟨rfl, rfl⟩)
      generalize w4.alloc (.cells #[.int .i64 2, .int .u64 (hdOr ns 0), .int .u64 (A.length : Int)] 25) = w5 at *
      generalize w4.heap.size = pb at *
      have HP5 : Hid (PL W w5 t F4 sy4 [(.slice Av A.length cv, A)] [(pb, hdOr ns 0, (A.length : Int))]) := HP5
      clear j0 j3 c0 c1 c2
      have b5 : Bud sy4 ((3700000000 + 2000) + 3 * 65537) := b4.mono (by omega)
      refine (preadw_b HP5.out.tx HP5.out.fits b5 df df' dc dc' (Fr.refl F4 _)).mono ?_
      rintro _ w6 ⟨va, la, er, s6, q6, rfl, hV6, hn6⟩
      obtain ⟨sz6, u6, h6⟩ := lst_read HS5.out (n := 0) (b5.mono (by omega))
      obtain ⟨rfl, rfl, rfl⟩ : A = la ∧ 0 = er ∧ sz6 = s6 := by have := u6.symm.trans q6.out; simpa using this
      obtain ⟨Aa, ca, rfl, hca⟩ := hV6.2.2.1.shape
      obtain ⟨F6, hP6, b6⟩ := HP5.out.list hV6 hn6
      have HP6 : Hid (PL W w6 t F6 sz6 [(.slice Av A.length cv, A), (.slice Aa A.length ca, A)] [(pb, hdOr ns 0, (A.length : Int))]) := Lib.hid hP6
      have HS6 := Lib.hid h6
      clear HP5 HS5 hV6 hn6 u6 q6 h6 hP6 b4 b5
      have b6 : Bud sz6 (3600000000 + 2 * 1000 + 1) := b6.mono (by omega)
      obtain ⟨pk, sk, eK, hK, kK⟩ := lst_keys (n := 0) (N := 1000) HS6.out (b6.mono (by omega)) (by omega)
      go_wp2_with fail
      refine (keys_b (n := 3600000000) (N := 1000) HP6.out.tx HP6.out.fits b6 (by omega) (by omega) (by omega) eK (Fr.refl F6 _)).mono ?_
      rw [kK]
      rintro _ w7 ⟨vb, rfl, hL7⟩
      obtain ⟨F7, hP7, b7⟩ := HP6.out.keys hL7
      obtain ⟨Ab, cb, rfl, hcb⟩ := hL7.2.2.1.shape
      simp only [List.length_nil] at hP7 hcb ⊢
      have HP7 : Hid (PL W w7 t F7 sk [(.slice Av A.length cv, A), (.slice Aa A.length ca, A), (.slice Ab 0 cb, [])] [(pb, hdOr ns 0, (A.length : Int))]) := Lib.hid hP7
      have HS7 := Lib.hid hK
      clear HP6 HS6 hL7 eK hK kK hP7 b6
      have b7 : Bud sk ((3500000000 + 9) + 3000) := b7.mono (by omega)
      obtain ⟨p', ks', s1, hR, s8, g8, u8, h8⟩ := lst_insert (N := 1000) 7 HS7.out b7 (by omega) (by omega)
      go_wp2_with fail
      refine (insert_b (n := 3500000000) (N := 1000) HP7.out.tx HP7.out.fits (b7.mono (by omega)) (by omega) (by omega) (by omega) (by omega) (by omega) (by omega) hR (Fr.refl F7 _)).mono ?_
      rw [u8]
      rintro _ w8 ⟨rfl, hL8⟩
      obtain ⟨F8, hP8, b8⟩ := HP7.out.step hL8
      have h7n : newK [] 7 = true := by decide
      have h7i : insK [] 7 = [7] := by decide
      rw [h7n]
      rw [h7i] at h8
      have HP8 := Lib.hid hP8
      have HS8 := Lib.hid h8
      obtain ⟨c0, c1, c2⟩ := hP8.cell (List.mem_singleton.2 rfl)
      simp only at c0 c1 c2
      clear HP7 HS7 hL8 hR u8 h8 hP8 b7 h7n h7i
      have b8 : Bud s8 ((3400000000 + 2000) + 3 * 65537) := b8.mono (by omega)
      go_wp2_with fail
      refine (preadw_b HP8.out.tx HP8.out.fits b8 df df' dc dc' (Fr.refl F8 _)).mono ?_
      rintro _ w9 ⟨vc, lc, er, s9, q9, rfl, hV9, hn9⟩
      obtain ⟨sz9, u9, h9⟩ := lst_read HS8.out (n := 0) (b8.mono (by omega))
      obtain ⟨rfl, rfl, rfl⟩ : A = lc ∧ 0 = er ∧ sz9 = s9 := by have := u9.symm.trans q9.out; simpa using this
      obtain ⟨Ac, cc, rfl, hcc⟩ := hV9.2.2.1.shape
      obtain ⟨F9, hP9, b9⟩ := HP8.out.list hV9 hn9
      have HP9 : Hid (PL W w9 t F9 sz9 [(.slice Av A.length cv, A), (.slice Aa A.length ca, A), (.slice Ab 0 cb, []), (.slice Ac A.length cc, A)] [(pb, hdOr ns 0, (A.length : Int))]) := Lib.hid hP9
      have HS9 := Lib.hid h9
      clear HP8 HS8 hV9 hn9 u9 q9 h9 hP9 b8 c0 c1 c2
      have HA9 := Lib.hid (HP9.out.ls (.slice Aa A.length ca, A) (by simp)).1.lies
      have HV9 := Lib.hid (HP9.out.ls (.slice Av A.length cv, A) (by simp)).1.lies
      go_wp2_with (go_at_call 17; refine (num_b _ _).mono ?_; rintro e _ ⟨rfl, rfl⟩)
      refine (wsame_b HA9.out HV9.out (by omega)).mono ?_
      rintro _ _ ⟨⟨n1, rfl⟩, rfl⟩
      have HP10 := Lib.hid (HP9.out.drewN n1)
      clear HP9 HA9 HV9
      generalize w9.drewN n1 = w10 at *
      have HC10 := Lib.hid (HP10.out.ls (.slice Ac A.length cc, A) (by simp)).1.lies
      have HV10 := Lib.hid (HP10.out.ls (.slice Av A.length cv, A) (by simp)).1.lies
      go_wp2_with (go_at_call 17; refine (num_b _ _).mono ?_; rintro e _ ⟨rfl, rfl⟩)
      refine (wsame_b HC10.out HV10.out (by omega)).mono ?_
      rintro _ _ ⟨⟨n2, rfl⟩, rfl⟩
      have HP11 := Lib.hid (HP10.out.drewN n2)
      clear HP10 HC10 HV10
      generalize w10.drewN n2 = w11 at *
      have b11 : Bud sz9 (3300000000 + 65537) := b9.mono (by omega)
      clear b9
      go_wp2_with fail
      refine (rgiven_b (n := 3300000000) HP11.out.tx HP11.out.fits b11 (by omega) (by omega) (by omega) (Fr.refl F9 _)).mono ?_
      rintro _ w12 ⟨ve, le, er, s12, q12, rfl, hV12⟩
      obtain ⟨l12, sy12, u12, k12, h12⟩ := lst_given (n := 3300000000) HS9.out b11
      obtain ⟨rfl, rfl, rfl⟩ : l12 = le ∧ 0 = er ∧ sy12 = s12 := by have := u12.symm.trans q12.out; simpa using this
      have hl12 : (l12.length : Int) ≤ 1000 := by have := h12.bds; omega
      have K12 := Lib.hid k12
      obtain ⟨Ae, ce, rfl, hce⟩ := hV12.2.2.1.shape
      obtain ⟨F12, hP12, b12⟩ := HP11.out.list hV12 (fun k hk => .inr (hV12.2.2.2.1 k hk))
      have HP12 := Lib.hid hP12.tail.tail.tail.tail
      have HS12 := Lib.hid h12
      clear HP11 HS9 hV12 u12 q12 h12 hP12 b11 k12
      have b12 : Bud sy12 (3200000000 + 7) := b12.mono (by omega)
      go_wp2_with fail
      refine (qunew_b HP12.out.tx HP12.out.fits b12 (by omega) (Fr.refl F12 _)).mono ?_
      rintro _ w13 ⟨x, er, s13, q13, dx, dx', rfl, hL13⟩
      obtain ⟨xq, sy13, u13, h13⟩ := lst_qnew (n := 3200000000) HS12.out b12 (by omega)
      obtain ⟨rfl, rfl, rfl⟩ : xq = x ∧ 0 = er ∧ sy13 = s13 := by have := u13.symm.trans q13.out; simpa using this
      obtain ⟨F13, hP13, b13⟩ := HP12.out.step hL13
      have HP13 := Lib.hid hP13
      have HS13 := Lib.hid h13
      obtain ⟨c0, c1, c2⟩ := hP13.cell (List.mem_singleton.2 rfl)
      simp only at c0 c1 c2
      clear HP12 HS12 hL13 u13 q13 h13 hP13 b12
      have b13 : Bud sy13 (3100000000 + 3 + 3 * 65537 + 1) := b13.mono (by omega)
      go_wp2_with fail
      refine (pback_b HP13.out.tx HP13.out.fits b13 dx dx' df df' dc dc' (Fr.refl F13 _)).mono ?_
      rintro _ w14 ⟨er, s14, q14, rfl, hL14⟩
      obtain ⟨rfl, rfl⟩ : 2 = er ∧ sy13 = s14 := by have := (pBack_2 xq (hdOr ns 0) A.length sy13).symm.trans q14.out; simpa using this
      obtain ⟨F14, hP14, b14⟩ := HP13.out.step hL14
      have HP14 := Lib.hid hP14
      obtain ⟨c0, c1, c2⟩ := hP14.cell (List.mem_singleton.2 rfl)
      simp only at c0 c1 c2
      clear HP13 hL14 q14 hP14 b13
      have b14 : Bud sy13 (3000000000 + 3 + 3 * 65537 + 1) := b14.mono (by omega)
      go_wp2_with (go_at_call 17; refine (num_b _ _).mono ?_; rintro e _ ⟨rfl, rfl⟩)
      refine (pback_b HP14.out.tx HP14.out.fits b14 (by omega) (by omega) df df' dc dc' (Fr.refl F14 _)).mono ?_
      rintro _ w15 ⟨er, s15, q15, rfl, hL15⟩
      obtain ⟨rfl, rfl⟩ : 2 = er ∧ sy13 = s15 := by have := (pBack_2 18 (hdOr ns 0) A.length sy13).symm.trans q15.out; simpa using this
      obtain ⟨F15, hP15, b15⟩ := HP14.out.step hL15
      have HP15 := Lib.hid hP15
      obtain ⟨c0, c1, c2⟩ := hP15.cell (List.mem_singleton.2 rfl)
      simp only at c0 c1 c2
      clear HP14 hL15 q15 hP15 b14
      obtain ⟨sn, n21, n22, n23⟩ := lst_nodes (n := 0) HS13.out (b15.mono (by omega))
      have N21 := Lib.hid n21
      have N22 := Lib.hid n22
      have N23 := Lib.hid n23
      have b15 : Bud sy13 (2900000000 + 3 * ns.length + 3 * 65537) := b15.mono (by omega)
      clear n21 n22 n23
      go_wp2_with (go_at_call 17; refine (num_b _ _).mono ?_; rintro e _ ⟨rfl, rfl⟩)
      refine (pgive_b HP15.out.tx HP15.out.fits b15 df df' dc dc' (Fr.refl F15 _) N21.out N22.out (by have := N23.out; omega)).mono ?_
      rintro _ w16 ⟨er, s16, q16, rfl, hL16⟩
      obtain ⟨sy16, u16, h16⟩ := lst_give (n := 0) HS13.out (b15.mono (by omega))
      obtain ⟨rfl, rfl⟩ : 0 = er ∧ sy16 = s16 := by have := u16.symm.trans q16.out; simpa using this
      obtain ⟨F16, hP16, b16⟩ := HP15.out.step hL16
      have HP16 := Lib.hid hP16
      have HS16 := Lib.hid h16
      clear HP15 HS13 hL16 q16 u16 h16 hP16 b15 c0 c1 c2 N21 N22 N23
      have b16 : Bud sy16 (2800000000 + 65537) := b16.mono (by omega)
      go_wp2_with (go_at_call 17; refine (num_b _ _).mono ?_; rintro e _ ⟨rfl, rfl⟩)
      refine (rgiven_b (n := 2800000000) HP16.out.tx HP16.out.fits b16 (by omega) (by omega) (by omega) (Fr.refl F16 _)).mono ?_
      rintro _ w17 ⟨vg, lg, er, s17, q17, rfl, hV17⟩
      obtain ⟨l17, sy17, u17, k17, h17⟩ := lst_given (n := 2800000000) HS16.out b16
      obtain ⟨rfl, rfl, rfl⟩ : l17 = lg ∧ 0 = er ∧ sy17 = s17 := by have := u17.symm.trans q17.out; simpa using this
      obtain ⟨Ag, cg, rfl, hcg⟩ := hV17.2.2.1.shape
      obtain ⟨F17, hP17, b17⟩ := HP16.out.list hV17 (fun k hk => .inr (hV17.2.2.2.1 k hk))
      have HP17 := Lib.hid hP17.drop
      have HS17 := Lib.hid h17
      have hsum : (l17.length : Int) = l12.length + A.length := by rw [k17, K12.out]; omega
      clear HP16 HS16 hV17 u17 q17 h17 hP17 b16 k17
      have b17 : Bud sy17 (2700000000 + 2 * 1000 + 1) := b17.mono (by omega)
      obtain ⟨pj, sj, eJ, hJ, kJ⟩ := lst_keys (n := 0) (N := 1000) HS17.out (b17.mono (by omega)) (by omega)
      go_wp2_with fail
      refine (keys_b (n := 2700000000) (N := 1000) HP17.out.tx HP17.out.fits b17 (by omega) (by omega) (by omega) eJ (Fr.refl F17 _)).mono ?_
      rw [kJ]
      rintro _ w18 ⟨vd, rfl, hL18⟩
      obtain ⟨F18, hP18, b18⟩ := HP17.out.keys hL18
      obtain ⟨Ad, cd, rfl, hcd⟩ := hL18.2.2.1.shape
      have HP18 := Lib.hid (hP18.alloc (.cells #[.int .u64 7] 23))
      have HD18 := Lib.hid (hL18.2.2.1.lies.alloc (.cells #[.int .u64 7] 23))
      have HN18 : Hid (Lies (w18.alloc (.cells #[.int .u64 7] 23)) (.slice (some ⟨w18.heap.size, 0, none⟩) 1 1) [7]) := Lib.hid (Lies.new w18 [7] (by simp))
      have HB18 := Lib.hid HP18.out.bel
      clear HP17 HS17 hL18 eJ hJ kJ hP18 b17 b18 HP18
      go_wp2_with fail
      refine (wsame_b HD18.out HN18.out (by simp)).mono ?_
      rintro _ _ ⟨⟨n3, rfl⟩, rfl⟩
      have HB19 := Lib.hid (below_drewNs HB18.out n3)
      clear HB18 HD18 HN18
      generalize (w18.alloc (.cells #[.int .u64 7] 23)).drewN n3 = w19 at *
      go_wp2_with fail
      refine (works_b _).mono ?_
      rintro _ w20 ⟨rfl, hb20⟩
      have HB20 := Lib.hid (HB19.out.trans (hb20.mono HB19.out.size))
      go_wp2
      go_ret
      exact ⟨rfl, HB20.out⟩
end Go.Proofs.Ytcgdpclhlepofaa
