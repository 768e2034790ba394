/- The document's answer for chapter 16: Never by contract. -/
import Derived.Deep.LoopGhost
import Derived.Test.YtloiadhdkgkjkaaOpE
import Derived.Test.YtloiadhdkgkjkaaPCl1
import Derived.Test.YtloiadhdkgkjkaaPCl4
import Derived.Test.YtloiadhdkgkjkaaPCl6
import Derived.Test.YtloiadhdkgkjkaaPCl8
import Derived.Test.YtloiadhdkgkjkaaPCl9
namespace Go.Proofs.Ytloiadhdkgkjkaa
open Go.RowKit
set_option maxHeartbeats 40000000
set_option linter.unusedVariables false
set_option linter.unusedSimpArgs false
/-- Did this word stand there once? -/
def onceL (L : List (List Int)) (c : Int × Int) : Bool := L.any fun s => stoodR s [c]
/-- What was read in n events, and never stood there. -/
def nvF (l : List Ev) (L : List (List Int)) : Nat → List (Int × Int)
  | 0 => []
  | n + 1 => if (evAt l n).kd = 2 ∧ (evAt l n).ow = false ∧ onceL L ((evAt l n).ad, (evAt l n).wd) = false then putL (nvF l L n) ((evAt l n).ad, (evAt l n).wd) else nvF l L n
def nevR (first : List Int) (l : List Ev) : List (Int × Int) := if (seeOdd first.length l).2 ≠ 0 then [] else nvF l (stA first l) l.length
theorem atP_le (l : List (Int × Int)) (c : Int × Int) : atP l c ≤ l.length := List.findIdx_le_length
theorem putL_len (l : List (Int × Int)) (c : Int × Int) : (putL l c).length ≤ l.length + 1 := by
  unfold putL
  split
  · omega
  · rw [insAt_len (atP_le l c)]; exact Nat.le_refl _
theorem nvF_len (l : List Ev) (L : List (List Int)) : ∀ n, (nvF l L n).length ≤ n
  | 0 => by simp [nvF]
  | n + 1 => by
    have ih := nvF_len l L n
    have := putL_len (nvF l L n) ((evAt l n).ad, (evAt l n).wd)
    unfold nvF
    split <;> omega
theorem any_take_succ {L : List (List Int)} {n : Nat} (hn : n < L.length) (f : List Int → Bool) : (L.take (n + 1)).any f = ((L.take n).any f || f (L.getD n [])) := by
  rw [List.take_succ_eq_append_getElem hn, List.any_append, List.getD_eq_getElem?_getD, List.getElem?_eq_getElem hn]
  simp
set_option maxRecDepth 100000 in
theorem rnever16_b {w : World} {Fv : Value} {A : Option Addr} {cp : Nat} {first : List Int} {l : List Ev} (hF : Lies w Fv first) (hL : LiesV w (.slice A l.length cp) l) (hwf : ∀ e ∈ l, EvWf e) (hsz : l.length * 48 + 480 ≤ 140737488355328) (hfl : first.length ≤ 9223372036854775807) :
    Calls Try.prog 20 #[Fv, .slice A l.length cp] w fun x w' => Below w.heap.size w w' ∧ ∃ ov, x = .returned (.tuple #[ov, .agg #[.int .i64 (seeOdd first.length l).1, .int .i64 (seeOdd first.length l).2]]) ∧ Sl 45 2 encC w' ov (nevR first l) := by
  obtain ⟨Af, cf, rfl, -⟩ := (show ∃ A cp, Fv = .slice A first.length cp ∧ True from by obtain ⟨A, cp, h1, _⟩ := hF; exact ⟨A, cp, h1, trivial⟩)
  have hlen : (l.length : Int) ≤ 9223372036854775807 := by omega
  have hR1 := Blk.new w 28 #[.int .i64 0, .int .i64 0]
  have hb1 := (Below.refl w.heap.size w).alloc (Nat.le_refl _) (.cells #[.int .i64 0, .int .i64 0] 28)
  have C1 := Lib.hid (rWrong_b (hF.below hb1) (hL.below hb1 (Nat.le_refl _)) hwf hsz hfl)
  obtain ⟨o1, ho1⟩ : ∃ o1, (seeOdd first.length l).1 = o1 := ⟨_, rfl⟩
  obtain ⟨o2, ho2⟩ : ∃ o2, (seeOdd first.length l).2 = o2 := ⟨_, rfl⟩
  rw [ho1, ho2] at C1
  replace ho1 := Lib.hid ho1
  replace ho2 := Lib.hid ho2
  replace hR1 := Lib.hid hR1
  replace hb1 := Lib.hid hb1
  replace hL := Lib.hid hL
  replace hF := Lib.hid hF
  have hsz2 := Lib.hid hsz
  go_enter Try.func20, Try.ntmps20
  go_wp2_with fail
  refine C1.out.mono ?_
  rintro _ w2 ⟨rfl, hb2⟩
  have hR2 := hR1.out.below hb2 hR1.out.lt
  have hbw2 := hb1.out.trans (hb2.mono hb1.out.size)
  obtain ⟨w3, hw3⟩ : ∃ w3, w3 = w2.alloc (.cells #[.int .i64 o1, .int .i64 o2] 28) := ⟨_, rfl⟩
  have hR3 : Hid (Blk w3 w.heap.size 28 #[.int .i64 0, .int .i64 0]) := Lib.hid (by rw [hw3]; exact hR2.alloc _)
  have hO3 : Hid (Blk w3 w2.heap.size 28 #[.int .i64 o1, .int .i64 o2]) := Lib.hid (by rw [hw3]; exact Blk.new _ _ _)
  have hb3 : Hid (Below w.heap.size w w3) := Lib.hid (by rw [hw3]; exact hbw2.alloc hbw2.size _)
  have hne : w.heap.size ≠ w2.heap.size := Nat.ne_of_lt hR2.lt
  have hlt2 : Hid (w.heap.size < w2.heap.size) := Lib.hid hR2.lt
  subst hw3
  have x0 := (hO3.out.cell 0).trans (show _ = some (.int .i64 o1) from rfl)
  have x1 := (hO3.out.cell 1).trans (show _ = some (.int .i64 o2) from rfl)
  clear hb2 hR2 hbw2 C1 hb1 hR1
  by_cases hz : o2 = 0
  case neg =>
    have hz1 : (o2 != 0) = true := by simpa using hz
    have hzz : Hid ((seeOdd first.length l).2 ≠ 0) := Lib.hid (by rw [ho2.out]; exact hz)
    have r0 := (hR3.out.cell 0).trans (show _ = some (.int .i64 0) from rfl)
    have r1 := (hR3.out.cell 1).trans (show _ = some (.int .i64 0) from rfl)
    have f0 := hR3.out.frozen 0
    have f1 := hR3.out.frozen 1
    replace hz := Lib.hid hz
    go_wp2
    refine wp_region_mixH (fun _ => True) [1, 3, 2] (List.range 3) (by kernel_rfl) (by kernel_rfl) (fun _ _ h => h) trivial ?_
    (repeat ((first | refine wpMixH_pure rfl rfl (fun K hK => ?_) | refine wpMixH_loc rfl rfl (fun K hK => ?_) | refine wpMixH_any rfl rfl (fun K hK => ?_)); go_simp; refine hK _ _ ?_; clear hK K))
    refine wpMixH_loud rfl rfl (fun n1 K hK => ?_)
    go_wp2
    refine hK _ _ (fun _ => trivial) ?_; clear hK K
    refine wpMixH_nil (fun n2 => ?_)
    go_wp2
    refine bodyPost_ret (v := .tuple #[.slice none 0 0, .agg #[.int .i64 o1, .int .i64 o2]]) (by simp [results, Try.results20, go_sem, r0, r1, f0, f1]) rfl ⟨below_drewNs (((below_drewNs hb3.out _).setCell (Nat.le_refl _) _).setCell (Nat.le_refl _) _) _, _, by rw [ho1.out, ho2.out], by unfold nevR; rw [if_pos hzz.out]; exact Sl.nil _⟩
  have hso := seeOdd_zero (n := first.length) (l := l) (by rw [ho2.out]; exact hz)
  obtain rfl : o1 = -1 := by rw [← ho1.out, hso]
  subst hz
  obtain ⟨hf6, hth, had3, had2⟩ := rpre hwf hso
  have HV := allV hwf hso
  have hz0 : Hid (¬ (seeOdd first.length l).2 ≠ 0) := Lib.hid (by rw [ho2.out]; simp)
  have CS := Lib.hid (fun W (h1 : Lies W (.slice Af first.length cf) first) (h2 : LiesV W (.slice A l.length cp) l) => rstates_b h1 h2 hth had3 hf6)
  have hWn := wrS_len l l.length
  have hSl := stA_len first l
  have hcm : (vAll first l).commits = (wrS l l.length).2.length := HV.vr.cm
  have hLl : Hid (∀ i, i < (stA first l).length → ((stA first l).getD i []).length = first.length) := Lib.hid (fun i hi => by rw [List.getD_eq_getElem?_getD, List.getElem?_eq_getElem hi]; exact stS_all _ _ _ _ _ (List.getElem_mem hi))
  rw [show (stS first l (wrS l l.length).2 (wrS l l.length).2.length).2 = stA first l from rfl] at CS
  have hSn : Hid ((stA first l).length ≤ 4611686018427387904) := Lib.hid (by omega)
  have hSc : Hid ((stA first l).length = (vAll first l).commits + 1) := Lib.hid (by omega)
  replace HV := Lib.hid HV
  clear hWn hSl hcm hth had3
  have hnR2 : Hid (nevR first l = nvF l (stA first l) l.length) := Lib.hid (by unfold nevR; rw [if_neg hz0.out])
  have hln75 : ∀ (W : World) (A : Option Addr) (n c : Nat) (ty : TypeId), (Builtin.len_ #[75] ty #[.slice A n c]).run Try.prog W = .ok (.int .i64 n) W := fun W A n c ty => by simp [Builtin.len_, run_underlying Try.underlying75, goInt]
  clear hsz
  go_wp2_with fail
  refine (CS.out _ (hF.out.below hb3.out) (hL.out.below hb3.out (Nat.le_refl _))).mono ?_
  rintro _ w4 ⟨hb4, ovS, vs, rfl, hT4⟩
  obtain ⟨AS, cS, rfl, -⟩ := hT4.sl.shape
  have hvl := hT4.len
  rw [hvl]
  have hR4 := Lib.hid (hR3.out.below hb4 hR3.out.lt)
  have hO4 := Lib.hid (hO3.out.below hb4 hO3.out.lt)
  have hbw4 := Lib.hid (hb3.out.trans (hb4.mono hb3.out.size))
  have hL4 := Lib.hid (fun W (h : Below w4.heap.size w4 W) => hL.out.below (hbw4.out.trans (h.mono hbw4.out.size)) (Nat.le_refl _))
  replace hT4 := Lib.hid hT4
  replace hvl := Lib.hid hvl
  have hlt4 := Lib.hid (Nat.lt_of_lt_of_le hlt2.out (Nat.le_trans (Nat.le_of_lt (by rw [World.size_alloc]; omega)) hb4.size))
  replace had2 := Lib.hid had2
  clear hb4 CS x0 x1
  go_wp2
  go_loopg [8, 9] l.length (fun gk c8 c9 wr => ∃ k : Nat, k + gk = l.length ∧ c9 = .int .i64 (k : Int) ∧ Hid (Sl 45 2 encC wr c8 (nvF l (stA first l) k)) ∧ Hid (∀ q, own c8 q → w4.heap.size ≤ q) ∧ Hid (Below w4.heap.size w4 wr))
  case atStart => exact ⟨0, by omega, rfl, Lib.hid (Sl.nil _), Lib.hid (fun q hq => absurd hq (no_own_nil q)), Lib.hid (Below.refl _ _)⟩
  case round =>
    obtain ⟨k, hkg, rfl, hS, hown, hbl⟩ := hrel
    cases gk with
    | zero =>
      have hkz : k = l.length := by omega
      subst hkz
      have hR7 := hR4.out.below hbl.out hR4.out.lt
      have hO7 := hO4.out.below hbl.out hO4.out.lt
      have r0 := (hR7.cell 0).trans (show _ = some (.int .i64 0) from rfl)
      have r1 := (hR7.cell 1).trans (show _ = some (.int .i64 0) from rfl)
      have f0 := hR7.frozen 0
      have f1 := hR7.frozen 1
      have o0 := (hO7.cell 0).trans (show _ = some (.int .i64 (-1)) from rfl)
      have o1 := (hO7.cell 1).trans (show _ = some (.int .i64 0) from rfl)
      have hnR : ¬ own u8 w.heap.size := fun h => by have := hown.out _ h; have := hlt4.out; omega
      have hb8 := Lib.hid (hbw4.out.trans (hbl.out.mono hbw4.out.size))
      have hfin : Hid (∀ j jj, Sl 45 2 encC ((((wr.drewN j).setCell ⟨w.heap.size, 0, none⟩ (.int .i64 (-1))).setCell ⟨w.heap.size, 1, none⟩ (.int .i64 0)).drewN jj) u8 (nevR first l)) := Lib.hid (fun j jj => by rw [hnR2.out]; exact (((hS.out.drewN j).set (p := ⟨w.heap.size, 0, none⟩) hnR _).set (p := ⟨w.heap.size, 1, none⟩) hnR _).drewN jj)
      clear hR7 hO7 hS hbl hnR
      go_wp2
      refine wp_region_mixH (fun _ => True) [3, 1, 3, 2] (List.range 4) (by kernel_rfl) (by kernel_rfl) (fun _ _ h => h) trivial ?_
      (repeat ((first | refine wpMixH_pure rfl rfl (fun K hK => ?_) | refine wpMixH_loc rfl rfl (fun K hK => ?_) | refine wpMixH_any rfl rfl (fun K hK => ?_)); go_simp; refine hK _ _ ?_; clear hK K))
      refine wpMixH_loud rfl rfl (fun n1 K hK => ?_)
      go_wp2
      refine hK _ _ (fun _ => trivial) ?_; clear hK K
      refine wpMixH_nil (fun n2 => ?_)
      go_wp2
      refine bodyPost_ret (v := .tuple #[u8, .agg #[.int .i64 (-1), .int .i64 0]]) (by simp [results, Try.results20, go_sem, r0, r1, f0, f1]) rfl ⟨below_drewNs (((below_drewNs hb8.out _).setCell (Nat.le_refl _) _).setCell (Nat.le_refl _) _) _, _, by rw [ho1.out, ho2.out], hfin.out _ _⟩
    | succ g0 =>
      have hkl : k < l.length := by omega
      have hk' : (k : Int) < (l.length : Int) := by omega
      have w1k := IntWalk.i64_in (n := (k : Int) + 1) (by omega)
      obtain ⟨g, o, eA, hc⟩ := (hL4.out wr hbl.out).at hkl
      subst eA
      obtain ⟨d0, d1, d2, d3, d4, -⟩ := hc k hkl
      have hu : Hid (nvF l (stA first l) (k + 1) = if (evAt l k).kd = 2 ∧ (evAt l k).ow = false ∧ onceL (stA first l) ((evAt l k).ad, (evAt l k).wd) = false then putL (nvF l (stA first l) k) ((evAt l k).ad, (evAt l k).wd) else nvF l (stA first l) k) := Lib.hid rfl
      have hrg := had2.out k hkl
      have hnl := Lib.hid (nvF_len l (stA first l) k)
      clear hc
      generalize evAt l k = ev at *
      obtain ⟨et, kd, ad, wd, ow, er⟩ := ev
      dsimp only at d0 d1 d2 d3 d4 hu hrg
      by_cases h2 : kd = 2
      case neg =>
        have h2b : (kd != 2) = true := by simpa using h2
        rw [if_neg (fun h => h2 h.1)] at hu
        replace h2 := Lib.hid h2
        clear d0 d2 d3 d4
        go_wp2
        go_roundg g0
        case measure => omega
        case rel => exact ⟨k + 1, by omega, by go_num, Lib.hid (by rw [hu.out]; exact hS.out), hown, hbl⟩
      subst h2
      cases ow with
      | true =>
        rw [if_neg (fun h => by cases h.2.1)] at hu
        clear d0 d2 d3
        go_wp2
        go_roundg g0
        case measure => omega
        case rel => exact ⟨k + 1, by omega, by go_num, Lib.hid (by rw [hu.out]; exact hS.out), hown, hbl⟩
      | false =>
        have hr2 := hrg rfl
        clear hrg
        go_upto_region 10 with (fail)
        go_cut [10] (fun c10 wx => ∃ cbk : Nat, c10 = .pointer (some ⟨cbk, 0, none⟩) ∧ wr.heap.size ≤ cbk ∧ Hid (Blk wx cbk 45 #[.int .u64 ad, .int .u64 wd]) ∧ Hid (Below wr.heap.size wr wx))
        case first =>
          have K0 : Hid (∀ J, (wr.drewN J).cell? ⟨g, o + k * 6 + 2, none⟩ = some (.int .u64 ad) ∧ (wr.drewN J).cell? ⟨g, o + k * 6 + 3, none⟩ = some (.int .u64 wd)) := Lib.hid fun J => ⟨d2, d3⟩
          have K1 : Hid (∀ J ob, ((wr.drewN J).alloc ob).cell? ⟨g, o + k * 6 + 2, none⟩ = some (.int .u64 ad) ∧ ((wr.drewN J).alloc ob).cell? ⟨g, o + k * 6 + 3, none⟩ = some (.int .u64 wd)) := Lib.hid fun J ob => ⟨Lib.cell?_alloc_some (W := wr.drewN J) ob d2, Lib.cell?_alloc_some (W := wr.drewN J) ob d3⟩
          have FIN : Hid (∀ J J2, Blk (((((wr.drewN J).alloc (.cells #[.int .u64 0, .int .u64 0] 45)).drewN J2).setCell ⟨wr.heap.size, 0, none⟩ (.int .u64 ad)).setCell ⟨wr.heap.size, 1, none⟩ (.int .u64 wd)) wr.heap.size 45 #[.int .u64 ad, .int .u64 wd] ∧ Below wr.heap.size wr (((((wr.drewN J).alloc (.cells #[.int .u64 0, .int .u64 0] 45)).drewN J2).setCell ⟨wr.heap.size, 0, none⟩ (.int .u64 ad)).setCell ⟨wr.heap.size, 1, none⟩ (.int .u64 wd))) := Lib.hid fun J J2 => by
            have b0 := (Blk.new (wr.drewN J) 45 #[.int .u64 0, .int .u64 0]).drewN J2
            have b2 := (b0.set_ 0 (.int .u64 ad)).set_ 1 (.int .u64 wd)
            exact ⟨b2, (((below_drewNs (((below_drewNs (Below.refl wr.heap.size wr) J)).alloc (Nat.le_refl _) _) J2)).setCell (Nat.le_refl _) _).setCell (Nat.le_refl _) _⟩
          have ZC : Hid (∀ J J2, ((((wr.drewN J).alloc (.cells #[.int .u64 0, .int .u64 0] 45)).drewN J2).cell? ⟨wr.heap.size, 0, none⟩ = some (.int .u64 0) ∧ (((wr.drewN J).alloc (.cells #[.int .u64 0, .int .u64 0] 45)).drewN J2).cell? ⟨wr.heap.size, 1, none⟩ = some (.int .u64 0)) ∧ (((wr.drewN J).alloc (.cells #[.int .u64 0, .int .u64 0] 45)).drewN J2).frozen? ⟨wr.heap.size, 0, none⟩ = false ∧ (((wr.drewN J).alloc (.cells #[.int .u64 0, .int .u64 0] 45)).drewN J2).frozen? ⟨wr.heap.size, 1, none⟩ = false) := Lib.hid fun J J2 => by
            have b0 := (Blk.new (wr.drewN J) 45 #[.int .u64 0, .int .u64 0]).drewN J2
            exact ⟨⟨(b0.cell 0).trans rfl, (b0.cell 1).trans rfl⟩, b0.frozen 0, b0.frozen 1⟩
          clear d0 d1 d2 d3 d4
          refine wp_region_mix2 (fun W' => W'.cell? ⟨g, o + k * 6 + 2, none⟩ = some (.int .u64 ad) ∧ W'.cell? ⟨g, o + k * 6 + 3, none⟩ = some (.int .u64 wd)) [3, 3, 3, 3, 0, 3, 3, 3, 3, 0, 2, 2, 2] (List.range 10) 10 11 [11, 12] [10, 12] (by kernel_rfl) (by kernel_rfl) (fun _ _ h => h) (K0.out 1) ?_
          (repeat (first | ((first | refine wpMixE_pure rfl rfl (fun K hK => ?_) | refine wpMixE_any rfl rfl (fun K hK => ?_)); go_simp; refine hK _ _ ?_; clear hK K) | (refine wpMixE_any rfl rfl (fun K hK => ?_); rw [if_pos (by go_simp)]; apply Exists.intro; refine And.intro (fun w2 hS2 => ?_) (hK _ _ ?_); (focus (obtain ⟨hs0, hs1⟩ := hS2; go_simp; rfl)); clear hK K)))
          refine wpMixE_nil ⟨?_, ?_⟩
          · refine wpMix_loud rfl rfl (fun m1 K hK => ?_)
            go_wp2_with fail
            refine hK _ _ (fun _ => (K0.out _)) ?_; clear hK K
            refine wpMix_loud rfl rfl (fun m2 K hK => ?_)
            go_wp2_with fail
            refine hK _ _ (fun _ => (K1.out _ _)) ?_; clear hK K
            refine wpMix_loud rfl rfl (fun m3 K hK => ?_)
            obtain ⟨⟨z0, z1⟩, f0, f1⟩ := ZC.out (1 + m1 + m2) m3
            obtain ⟨b2, b3⟩ := FIN.out (1 + m1 + m2) m3
            obtain ⟨wz, hwz⟩ : ∃ wz, wz = ((wr.drewN (1 + m1 + m2)).alloc (.cells #[.int .u64 0, .int .u64 0] 45)).drewN m3 := ⟨_, rfl⟩
            rw [← hwz] at z0 z1 f0 f1 b2 b3 ⊢
            replace hwz := Lib.hid hwz
            replace b2 := Lib.hid b2
            replace b3 := Lib.hid b3
            go_wp2_with fail
            refine hK _ _ (fun h => (Bool.false_ne_true ((Eq.symm (by kernel_rfl)).trans h)).elim) ?_; clear hK K
            refine wpMix_nil (fun m4 => ?_)
            go_wp2
            go_meet
            exact ⟨_, rfl, Nat.le_refl _, Lib.hid (b2.out.drewN _), Lib.hid (below_drewNs b3.out _)⟩
          · refine wpMix_loud rfl rfl (fun m1 K hK => ?_)
            go_wp2_with fail
            refine hK _ _ (fun _ => (K1.out _ _)) ?_; clear hK K
            refine wpMix_loud rfl rfl (fun m2 K hK => ?_)
            go_wp2_with fail
            refine hK _ _ (fun _ => (K1.out (1 + m1) _)) ?_; clear hK K
            refine wpMix_loud rfl rfl (fun m3 K hK => ?_)
            obtain ⟨⟨z0, z1⟩, f0, f1⟩ := ZC.out (1 + m1) (m2 + m3)
            obtain ⟨b2, b3⟩ := FIN.out (1 + m1) (m2 + m3)
            rw [drewN_drewN]
            obtain ⟨wz, hwz⟩ : ∃ wz, wz = ((wr.drewN (1 + m1)).alloc (.cells #[.int .u64 0, .int .u64 0] 45)).drewN (m2 + m3) := ⟨_, rfl⟩
            rw [← hwz] at z0 z1 f0 f1 b2 b3 ⊢
            replace hwz := Lib.hid hwz
            replace b2 := Lib.hid b2
            replace b3 := Lib.hid b3
            go_wp2_with fail
            refine hK _ _ (fun h => (Bool.false_ne_true ((Eq.symm (by kernel_rfl)).trans h)).elim) ?_; clear hK K
            refine wpMix_nil (fun m4 => ?_)
            go_wp2
            go_meet
            exact ⟨_, rfl, Nat.le_refl _, Lib.hid (b2.out.drewN _), Lib.hid (below_drewNs b3.out _)⟩
        case rest =>
        obtain ⟨cbk, rfl, hcb, hCb, hbc⟩ := hcut
        obtain ⟨wX, rfl⟩ : ∃ u : World, u = wc := ⟨_, rfl⟩
        have hSX := Lib.hid (hS.out.blw hbc.out)
        have hownlt : Hid (∀ q, own u8 q → q < cbk) := Lib.hid fun q hq => Nat.lt_of_lt_of_le (hS.out.lt q hq) hcb
        have hblX := Lib.hid (hbl.out.trans (hbc.out.mono hbl.out.size))
        have hsn := hSn.out
        obtain ⟨ov0, hov0⟩ : ∃ ov0, ov0 = u8 := ⟨_, rfl⟩
        subst hov0
        clear hS hbc hbl d1 d0 d2 d3 d4
        go_wp2
        go_loopg [11, 12] (stA first l).length (fun gk c11 c12 wx => ∃ n : Nat, n + gk = (stA first l).length ∧ c12 = .int .i64 (n : Int) ∧ c11 = .bool (((stA first l).take n).any fun s => stoodR s [(ad, wd)]) ∧ Hid (Below wX.heap.size wX wx))
        case atStart => exact ⟨0, by omega, rfl, by simp, Lib.hid (Below.refl _ _)⟩
        case round =>
          obtain ⟨n, hng, rfl, rfl, hbx⟩ := hrel
          cases gk with
          | zero =>
            have hnz : n = (stA first l).length := by omega
            have hn' : ¬ (n : Int) < ((stA first l).length : Int) := by omega
            have hon : Hid ((((stA first l).take n).any fun s => stoodR s [(ad, wd)]) = onceL (stA first l) (ad, wd)) := Lib.hid (by rw [hnz, List.take_length]; rfl)
            rw [hon.out]
            have hSx := Lib.hid (hSX.out.blw hbx.out)
            have hblx := Lib.hid (hblX.out.trans (hbx.out.mono hblX.out.size))
            have hCx := hCb.out.below hbx.out hCb.out.lt
            have z0 := (hCx.cell 0).trans (show _ = some (.int .u64 ad) from rfl)
            have z1 := (hCx.cell 1).trans (show _ = some (.int .u64 wd) from rfl)
            clear hCx hSX hblX hCb hon
            replace hnz := Lib.hid hnz
            generalize onceL (stA first l) (ad, wd) = on at *
            cases on with
            | true =>
              rw [if_neg (fun h => by cases h.2.2)] at hu
              go_wp2
              go_roundg g0
              case measure => omega
              case rel => exact ⟨k + 1, by omega, by go_num, Lib.hid (by rw [hu.out]; exact hSx.out), hown, hblx⟩
            | false =>
              rw [if_pos (by simp)] at hu
              have PT := Lib.hid (rput16_b (c := (ad, wd)) hSx.out (by have := hnl.out; have := hsz2.out; omega))
              go_wp2_with fail
              refine PT.out.mono ?_
              rintro _ w9 ⟨ov9, rfl, hS9, hF9⟩
              have hR : Hid (Sl 45 2 encC w9 ov9 (nvF l (stA first l) (k + 1)) ∧ (∀ q, own ov9 q → w4.heap.size ≤ q) ∧ Below w4.heap.size w4 w9) := Lib.hid ⟨by rw [hu.out]; exact hS9, fun q hq => (hF9.new q hq).elim (hown.out q) fun h => Nat.le_trans hblx.out.size h, hblx.out.trans (hF9.below hown.out hblx.out.size)⟩
              clear hS9 hF9 PT hSx hblx
              go_wp2
              go_roundg g0
              case measure => omega
              case rel => exact ⟨k + 1, by omega, by go_num, Lib.hid hR.out.1, Lib.hid hR.out.2.1, Lib.hid hR.out.2.2⟩
          | succ g1 =>
            have hnl2 : n < (stA first l).length := by omega
            have hn' : (n : Int) < ((stA first l).length : Int) := by omega
            have w1n := IntWalk.i64_in (n := (n : Int) + 1) (by omega)
            have hst := Lib.hid (any_take_succ hnl2 (fun s => stoodR s [(ad, wd)]))
            have hTx := hT4.out.below (hblX.out.trans (hbx.out.mono hblX.out.size))
            have hnv : n < vs.length := by rw [hvl.out]; exact hnl2
            obtain ⟨gS, oS, e1, hgS, hcc⟩ := hTx.sl.cell encW_len (by decide) hnv
            subst e1
            have s0 := (hcc n hnv 0 (by decide)).1
            have hWk := hTx.at_ n hnv
            have hLk := hLl.out n hnl2
            generalize vs[n] = v at *
            obtain ⟨vA, vn, vc⟩ := v
            simp only [encW, List.getElem?_cons_zero, Nat.add_zero, Nat.mul_one] at s0
            have S0 : Hid (∀ J, (wr.drewN J).cell? ⟨gS, oS + n, none⟩ = some (.slice vA vn vc)) := Lib.hid fun J => s0
            have S1 : Hid (∀ J ob, ((wr.drewN J).alloc ob).cell? ⟨gS, oS + n, none⟩ = some (.slice vA vn vc)) := Lib.hid fun J ob => Lib.cell?_alloc_some (W := wr.drewN J) ob s0
            have hCx := hCb.out.below hbx.out hCb.out.lt
            have z0 := (hCx.cell 0).trans (show _ = some (.int .u64 ad) from rfl)
            have z1 := (hCx.cell 1).trans (show _ = some (.int .u64 wd) from rfl)
            have ST : Hid (∀ J J2, Calls Try.prog 34 #[.slice vA vn vc, .slice (some ⟨wr.heap.size, 0, none⟩) 1 1] (((wr.drewN J).alloc (.cells #[.int .u64 ad, .int .u64 wd] 45)).drewN J2) fun x w' => x = .returned (.bool (stoodR ((stA first l).getD n []) [(ad, wd)])) ∧ ∃ n, w' = (((wr.drewN J).alloc (.cells #[.int .u64 ad, .int .u64 wd] 45)).drewN J2).drewN n) := Lib.hid fun J J2 => by
              have hs := (Sl.new (e := 45) encC_len (wr.drewN J) [(ad, wd)] (by simp)).drewN J2
              exact rstoodP_b (((hWk.drewN J).alloc _).drewN J2).lies (liesP_sl hs) (by rw [hLk]; omega) (by simp) (fun p hp => by rw [List.mem_singleton] at hp; subst hp; rw [hLk]; exact hr2)
            obtain ⟨q, hq⟩ : ∃ q, stoodR ((stA first l).getD n []) [(ad, wd)] = q := ⟨_, rfl⟩
            rw [hq] at ST hst
            replace hq := Lib.hid hq
            clear hcc hWk hTx hnv hLk hCx
            generalize ((stA first l).take n).any (fun s => stoodR s [(ad, wd)]) = b at *
            cases b with
            | true =>
              rw [Bool.true_or] at hst
              clear s0
              go_wp2_with fail
              go_quiet (fail)
              go_wp2
              go_roundg g1
              case measure => omega
              case rel => exact ⟨n + 1, by omega, by go_num, by rw [hst.out], Lib.hid (below_drewNs hbx.out _)⟩
            | false =>
              rw [Bool.false_or] at hst
              clear s0
              go_wp2_with fail
              refine wp_region_mixH (fun W' => W'.cell? ⟨gS, oS + n, none⟩ = some (.slice vA vn vc)) [3, 3, 3, 3, 3, 0, 1, 2, 2, 3, 3] (List.range 11) (by kernel_rfl) (by kernel_rfl) (fun _ _ h => h) (S0.out 1) ?_
              (repeat (first | ((first | refine wpMixH_pure rfl rfl (fun K hK => ?_) | refine wpMixH_loc rfl rfl (fun K hK => ?_) | refine wpMixH_any rfl rfl (fun K hK => ?_)); go_simp; refine hK _ _ ?_; clear hK K) | (refine wpMixH_any rfl rfl (fun K hK => ?_); rw [if_pos (by go_simp)]; apply Exists.intro; refine And.intro (fun w2 hS2 => ?_) (hK _ _ ?_); (focus (obtain hs1 := hS2; go_simp; rfl)); clear hK K)))
              refine wpMixH_loud rfl rfl (fun n1 K hK => ?_)
              go_wp2
              refine hK _ _ (fun _ => (S1.out _ _)) ?_; clear hK K
              (repeat (first | ((first | refine wpMixH_pure rfl rfl (fun K hK => ?_) | refine wpMixH_loc rfl rfl (fun K hK => ?_) | refine wpMixH_any rfl rfl (fun K hK => ?_)); go_simp; refine hK _ _ ?_; clear hK K) | (refine wpMixH_any rfl rfl (fun K hK => ?_); rw [if_pos (by go_simp)]; apply Exists.intro; refine And.intro (fun w2 hS2 => ?_) (hK _ _ ?_); (focus (obtain hs1 := hS2; go_simp; rfl)); clear hK K)))
              refine wpMixH_loud rfl rfl (fun n2 K hK => ?_)
              go_wp2_with fail
              refine (ST.out _ _).mono ?_
              rintro _ _ ⟨rfl, n5, rfl⟩
              go_wp2
              refine hK _ _ (fun h => (Bool.false_ne_true ((Eq.symm (by kernel_rfl)).trans h)).elim) ?_; clear hK K
              (repeat (first | ((first | refine wpMixH_pure rfl rfl (fun K hK => ?_) | refine wpMixH_loc rfl rfl (fun K hK => ?_) | refine wpMixH_any rfl rfl (fun K hK => ?_)); go_simp; refine hK _ _ ?_; clear hK K)))
              refine wpMixH_nil (fun n3 => ?_)
              go_wp2
              go_roundg g1
              case measure => omega
              case rel => exact ⟨n + 1, by omega, by go_num, by rw [hst.out], Lib.hid (below_drewNs ((below_drewNs hbx.out _).alloc hbx.out.size _) _)⟩
end Go.Proofs.Ytloiadhdkgkjkaa
/- Never, plain: the document's list and the program's are one. -/
namespace Go.Proofs.Ytloiadhdkgkjkaa
set_option maxHeartbeats 1000000
set_option linter.unusedVariables false
set_option linter.unusedSimpArgs false
theorem ltC_iff (x y : Int × Int) : ltC x y = true ↔ (x.1 < y.1 ∨ (x.1 = y.1 ∧ x.2 < y.2)) := by unfold ltC; simp
theorem ltC_trans {x y z : Int × Int} (h1 : ltC x y = true) (h2 : ltC y z = true) : ltC x z = true := by
  rw [ltC_iff] at *; omega
theorem ltC_irr (x : Int × Int) : ltC x x = false := by
  rw [← Bool.not_eq_true, ltC_iff]; omega
theorem ltC_tot {x y : Int × Int} (h1 : ltC x y = false) (h2 : x ≠ y) : ltC y x = true := by
  rw [← Bool.not_eq_true, ltC_iff] at h1
  rw [ltC_iff]
  obtain ⟨a, b⟩ := x
  obtain ⟨c, d⟩ := y
  dsimp only at *
  have : ¬ (a = c ∧ b = d) := fun h => h2 (by rw [h.1, h.2])
  omega
def StC (l : List (Int × Int)) : Prop := l.Pairwise fun x y => ltC x y = true
theorem StC.eq {a b : List (Int × Int)} (ha : StC a) (hb : StC b) (h : ∀ x, x ∈ a ↔ x ∈ b) : a = b := by
  have na : a.Nodup := List.Pairwise.imp (fun {x y} h e => by rw [e, ltC_irr] at h; cases h) ha
  have nb : b.Nodup := List.Pairwise.imp (fun {x y} h e => by rw [e, ltC_irr] at h; cases h) hb
  have hp : a.Perm b := (List.perm_ext_iff_of_nodup na nb).2 h
  refine List.Perm.eq_of_pairwise (le := fun x y => ltC x y = true) ?_ ha hb hp
  intro x y _ _ h1 h2
  have := ltC_trans h1 h2
  rw [ltC_irr] at this
  cases this
theorem atP_spec (l : List (Int × Int)) (c : Int × Int) : (∀ j (hj : j < l.length), j < atP l c → ltC l[j] c = true) ∧ (∀ h : atP l c < l.length, ltC (l[atP l c]'h) c = false) := by
  refine ⟨fun j hj h => ?_, fun h => ?_⟩
  · have := List.not_of_lt_findIdx (p := fun x => !ltC x c) (xs := l) h
    simpa using this
  · have := List.findIdx_getElem (p := fun x => !ltC x c) (xs := l) (w := h)
    have h2 : (!ltC (l[atP l c]'h) c) = true := this
    simpa using h2
theorem putL_mem {l : List (Int × Int)} {c x : Int × Int} : x ∈ putL l c ↔ x = c ∨ x ∈ l := by
  unfold putL
  split
  · rename_i h
    constructor
    · exact .inr
    · rintro (rfl | h1)
      · exact List.mem_of_getElem? h
      · exact h1
  · unfold insAt
    rw [List.mem_append, List.mem_append, List.mem_singleton]
    have : x ∈ l ↔ x ∈ l.take (atP l c) ∨ x ∈ l.drop (atP l c) := by rw [← List.mem_append, List.take_append_drop]
    rw [this]
    constructor
    · rintro (h | h | h)
      · exact .inr (.inl h)
      · exact .inl h
      · exact .inr (.inr h)
    · rintro (h | h | h)
      · exact .inr (.inl h)
      · exact .inl h
      · exact .inr (.inr h)
theorem putL_st {l : List (Int × Int)} {c : Int × Int} (h : StC l) : StC (putL l c) := by
  obtain ⟨s1, s2⟩ := atP_spec l c
  have hle := atP_le l c
  unfold putL
  split
  · exact h
  · rename_i hne
    unfold insAt StC
    have h1 : (l.take (atP l c)).Pairwise fun x y => ltC x y = true := List.Pairwise.sublist (List.take_sublist _ _) h
    have h2 : (l.drop (atP l c)).Pairwise fun x y => ltC x y = true := List.Pairwise.sublist (List.drop_sublist _ _) h
    have hlo : ∀ x ∈ l.take (atP l c), ltC x c = true := fun x hx => by
      obtain ⟨j, hj, rfl⟩ := List.mem_iff_getElem.1 hx
      rw [List.length_take] at hj
      rw [List.getElem_take]
      exact s1 j (by omega) (by omega)
    have hhi : ∀ x ∈ l.drop (atP l c), ltC c x = true := fun x hx => by
      obtain ⟨j, hj, rfl⟩ := List.mem_iff_getElem.1 hx
      rw [List.length_drop] at hj
      rw [List.getElem_drop]
      have hat : atP l c < l.length := by omega
      have h0 : ltC c (l[atP l c]'hat) = true := ltC_tot (s2 hat) (fun e => hne (by rw [List.getElem?_eq_getElem hat, e]))
      by_cases hj0 : j = 0
      · subst hj0; exact h0
      · exact ltC_trans h0 (List.pairwise_iff_getElem.1 h (atP l c) (atP l c + j) hat (by omega) (by omega))
    rw [List.pairwise_append]
    refine ⟨h1, ?_, ?_⟩
    · rw [List.singleton_append, List.pairwise_cons]
      exact ⟨hhi, h2⟩
    · intro x hx y hy
      rw [List.singleton_append, List.mem_cons] at hy
      rcases hy with rfl | hy
      · exact hlo x hx
      · exact ltC_trans (hlo x hx) (hhi y hy)
theorem nvF_st (l : List Ev) (L : List (List Int)) : ∀ n, StC (nvF l L n)
  | 0 => List.Pairwise.nil
  | n + 1 => by
    unfold nvF
    split
    · exact putL_st (nvF_st l L n)
    · exact nvF_st l L n
/-- This was read there, and not written by the attempt itself. -/
def rdE (l : List Ev) (j : Nat) (c : Int × Int) : Prop := (evAt l j).kd = 2 ∧ (evAt l j).ow = false ∧ c = ((evAt l j).ad, (evAt l j).wd)
theorem nvF_mem (l : List Ev) (L : List (List Int)) {c : Int × Int} : ∀ n, c ∈ nvF l L n ↔ (∃ j, j < n ∧ rdE l j c) ∧ onceL L c = false
  | 0 => by simp [nvF]
  | n + 1 => by
    have ih := nvF_mem l L (c := c) n
    unfold nvF
    split
    · rename_i h
      rw [putL_mem, ih]
      constructor
      · rintro (rfl | ⟨⟨j, hj, hr⟩, ho⟩)
        · exact ⟨⟨n, by omega, h.1, h.2.1, rfl⟩, h.2.2⟩
        · exact ⟨⟨j, by omega, hr⟩, ho⟩
      · rintro ⟨⟨j, hj, hr⟩, ho⟩
        by_cases e : j = n
        · subst e; exact .inl hr.2.2
        · exact .inr ⟨⟨j, by omega, hr⟩, ho⟩
    · rename_i h
      rw [ih]
      constructor
      · rintro ⟨⟨j, hj, hr⟩, ho⟩
        exact ⟨⟨j, by omega, hr⟩, ho⟩
      · rintro ⟨⟨j, hj, hr⟩, ho⟩
        by_cases e : j = n
        · subst e
          exact absurd ⟨hr.1, hr.2.1, by rw [← hr.2.2]; exact ho⟩ h
        · exact ⟨⟨j, by omega, hr⟩, ho⟩
theorem dn_self {l : List (Nat × Int)} (hu : l.Pairwise fun a b => a.1 < b.1) {j : Nat} (hj : j < l.length) : ∀ i, j ≤ i → i < l.length → dn l (l[j]'hj).1 i = j
  | 0, h1, _ => by have : j = 0 := by omega
                   subst this; rfl
  | i + 1, h1, h2 => by
    unfold dn
    rw [← getD_cell h2]
    by_cases e : j = i + 1
    · subst e; rw [if_neg (by omega)]
    · have := List.pairwise_iff_getElem.1 hu j (i + 1) hj h2 (by omega)
      rw [if_pos this]
      exact dn_self hu hj i (by omega) (by omega)
theorem once_seen {first : List Int} {l : List Ev} (h : AllV first l) {c : Int × Int} (hc : 0 ≤ c.1 ∧ c.1 < (first.length : Int)) : onceL (stA first l) c = seenB (vAll first l).cells c := by
  have hw : ∀ p ∈ [c], 0 ≤ p.1 ∧ p.1 < (first.length : Int) := fun p hp => by rw [List.mem_singleton] at hp; subst hp; exact hc
  have hI := h.vi.inc c.1.toNat (by omega)
  have hcm : (vAll first l).commits = (wrS l l.length).2.length := h.vr.cm
  have hlen := stA_len first l
  unfold onceL seenB
  rw [Bool.eq_iff_iff, List.any_eq_true, List.any_eq_true]
  constructor
  · rintro ⟨s, hs, hst⟩
    obtain ⟨n, hn, rfl⟩ := List.mem_iff_getElem.1 hs
    have e : (stA first l)[n] = (stA first l).getD n [] := by rw [List.getD_eq_getElem?_getD, List.getElem?_eq_getElem hn]; rfl
    rw [e, stoodR_eq h hn hw] at hst
    unfold stoodW at hst
    obtain ⟨p, hp, ep⟩ := atW_mem hI.ne n
    exact ⟨p, hp, by rw [ep]; simpa using hst⟩
  · rintro ⟨p, hp, hpe⟩
    have hpn := hI.le p hp
    have hn : p.1 < (stA first l).length := by omega
    refine ⟨(stA first l)[p.1], List.getElem_mem hn, ?_⟩
    have e : (stA first l)[p.1] = (stA first l).getD p.1 [] := by rw [List.getD_eq_getElem?_getD, List.getElem?_eq_getElem hn]; rfl
    rw [e, stoodR_eq h hn hw]
    unfold stoodW
    obtain ⟨j, hj, hjp⟩ := List.mem_iff_getElem.1 hp
    have ha : atW ((vAll first l).cells c.1.toNat) p.1 = p.2 := by
      unfold atW
      have := dn_self hI.up hj (((vAll first l).cells c.1.toNat).length - 1) (by omega) (by omega)
      rw [hjp] at this
      rw [this, ← getD_cell hj, hjp]
    simpa [ha] using hpe
def rdS (v : Vw) (c : Int × Int) : Prop := ∃ x ∈ v.sights, c ∈ x.reads
theorem rdS_set {L : List Sg} {q : Nat} (hq : q < L.length) {y : Sg} {c : Int × Int} (P : Prop) (hy : c ∈ y.reads ↔ c ∈ (L.getD q Sg.zero).reads ∨ P) : (∃ x ∈ L.set q y, c ∈ x.reads) ↔ (∃ x ∈ L, c ∈ x.reads) ∨ P := by
  have e : L.getD q Sg.zero = L[q] := by rw [List.getD_eq_getElem?_getD, List.getElem?_eq_getElem hq]; rfl
  rw [e] at hy
  constructor
  · rintro ⟨x, hx, hc⟩
    rcases List.mem_or_eq_of_mem_set hx with hx | rfl
    · exact .inl ⟨x, hx, hc⟩
    · rcases hy.1 hc with h | h
      · exact .inl ⟨_, List.getElem_mem hq, h⟩
      · exact .inr h
  · rintro (⟨x, hx, hc⟩ | h)
    · obtain ⟨j, hj, rfl⟩ := List.mem_iff_getElem.1 hx
      by_cases ej : j = q
      · subst ej
        exact ⟨y, List.mem_set hq y, hy.2 (.inl hc)⟩
      · refine ⟨L[j], ?_, hc⟩
        rw [List.mem_iff_getElem]
        exact ⟨j, by rw [List.length_set]; exact hj, by rw [List.getElem_set_ne (fun h => ej h.symm)]⟩
    · exact ⟨y, List.mem_set hq y, hy.2 (.inr h)⟩
theorem rdS_tl (v : Vw) (i : Nat) (e : Ev) (c : Int × Int) : rdS (vTl v i e) c ↔ rdS v c := by
  unfold vTl
  dsimp only
  split
  · rename_i h
    unfold tailB at h
    simp only [Bool.and_eq_true, decide_eq_true_eq] at h
    unfold rdS
    dsimp only
    rw [rdS_set h.2.1 False (by simp)]
    simp
  · rfl
theorem rdS_vn {first : List Int} {l : List Ev} (hwf : ∀ e ∈ l, EvWf e) (h : AllV first l) (c : Int × Int) : ∀ k, k ≤ l.length → (rdS (vn first (rn l l.length).tries l k) c ↔ ∃ j, j < k ∧ rdE l j c)
  | 0, _ => by simp [rdS, vn, vw0]
  | k + 1, hk => by
    have ih := rdS_vn hwf h c k (by omega)
    have hVI := VI.vn (T := (rn l l.length).tries) (first := first) hwf h.ok h.pl h.fa (show k ≤ l.length by omega)
    have hI := inv_rn hwf (show k ≤ l.length by omega) (fun j hj => h.ok j (by omega))
    have hw := h.ok k (by omega)
    obtain ⟨hfm, htb, h9, -, -, -⟩ := wrong_zero hw
    obtain ⟨⟨h0, h8⟩, k1, k12⟩ := fmd_bd hfm
    obtain ⟨t, ht⟩ := Int.eq_ofNat_of_zero_le h0
    have htn : (evAt l k).th.toNat = t := by rw [ht, Int.toNat_natCast]
    rw [htn] at htb
    have step : rdS (vEv (rn l l.length).tries (vn first (rn l l.length).tries l k) (evAt l k)) c ↔ rdS (vn first (rn l l.length).tries l k) c ∨ rdE l k c := by
      unfold vEv rdE
      dsimp only
      rw [htn]
      split
      · rename_i e1
        unfold rdS
        dsimp only
        simp only [List.mem_append, List.mem_singleton]
        constructor
        · rintro ⟨x, hx | rfl, hc⟩
          · exact .inl ⟨x, hx, hc⟩
          · simp at hc
        · rintro (⟨x, hx, hc⟩ | ⟨h2, -⟩)
          · exact ⟨x, .inl hx, hc⟩
          · omega
      split
      · rename_i e1 e2
        split
        · rename_i e3
          constructor
          · exact .inl
          · rintro (h | ⟨-, h3, -⟩)
            · exact h
            · rw [e3] at h3; cases h3
        · rename_i e3
          have hlv : liveT ((rn l k).th t) := by
            rw [e2] at htb
            have := hI.bd.how t
            unfold tb at htb
            by_cases f0 : ((rn l k).th t).how = 0
            · simp [f0] at htb
            · by_cases f1 : ((rn l k).th t).how = 1
              · exact .inl f1
              · by_cases f2 : ((rn l k).th t).how = 2
                · exact .inr f2
                · simp [f0, f1, f2] at htb
          have hq : ((vn first (rn l l.length).tries l k).now t).tri < (vn first (rn l l.length).tries l k).sights.length := by
            rw [hVI.live t (by omega) hlv, hVI.sl, hVI.nx]
            obtain ⟨x, g1, -⟩ := hI.op t (by omega) hlv
            exact (List.getElem?_eq_some_iff.1 g1).1
          unfold rdS
          dsimp only
          rw [rdS_set hq (c = ((evAt l k).ad, (evAt l k).wd)) (by simp)]
          have e3' : (evAt l k).ow = false := by simpa using e3
          constructor
          · rintro (h | h)
            · exact .inl h
            · exact .inr ⟨e2, e3', h⟩
          · rintro (h | ⟨-, -, h⟩)
            · exact .inl h
            · exact .inr h
      · rename_i e1 e2
        have hn : ¬ ((evAt l k).kd = 2 ∧ (evAt l k).ow = false ∧ c = ((evAt l k).ad, (evAt l k).wd)) := fun h => e2 h.1
        repeat' split
        all_goals
          constructor
          · exact fun h => .inl h
          · rintro (h | h)
            · exact h
            · exact absurd h hn
    show rdS (vTl _ _ _) c ↔ _
    rw [rdS_tl, step, ih]
    constructor
    · rintro (⟨j, hj, hr⟩ | hr)
      · exact ⟨j, by omega, hr⟩
      · exact ⟨k, by omega, hr⟩
    · rintro ⟨j, hj, hr⟩
      by_cases e : j = k
      · subst e; exact .inr hr
      · exact .inl ⟨j, by omega, hr⟩
theorem ddT_all (l : List (Int × Int)) : ∀ n, n ≤ l.length → ∀ j (hj : j < l.length), j < n → l[j] ∈ ddT l n
  | 0, _, j, hj, h => by omega
  | n + 1, hn, j, hj, h => by
    have en : l.getD n (0, 0) = l[n]'(by omega) := by rw [List.getD_eq_getElem?_getD, List.getElem?_eq_getElem (by omega)]; rfl
    by_cases hc : n = 0 ∨ l.getD n (0, 0) ≠ l.getD (n - 1) (0, 0)
    · rw [ddT, if_pos hc, List.mem_append, List.mem_singleton]
      by_cases e : j = n
      · subst e; exact .inr en.symm
      · exact .inl (ddT_all l n (by omega) j hj (by omega))
    · rw [ddT, if_neg hc]
      by_cases e : j = n
      · subst e
        have h0 : ¬ (j = 0) := fun h => hc (.inl h)
        have h1 : l.getD j (0, 0) = l.getD (j - 1) (0, 0) := Classical.byContradiction fun h => hc (.inr h)
        have e1 : l.getD (j - 1) (0, 0) = l[j - 1]'(by omega) := by rw [List.getD_eq_getElem?_getD, List.getElem?_eq_getElem (by omega)]; rfl
        rw [← en, h1, e1]
        exact ddT_all l j (by omega) (j - 1) (by omega) (by omega)
      · exact ddT_all l n (by omega) j hj (by omega)
theorem compC_all {l : List (Int × Int)} {c : Int × Int} : c ∈ compC l ↔ c ∈ l := by
  constructor
  · exact compC_mem
  · intro h
    obtain ⟨j, hj, rfl⟩ := List.mem_iff_getElem.1 h
    exact ddT_all l _ (Nat.le_refl _) j hj hj
theorem ddT_st {l : List (Int × Int)} (h : l.Pairwise fun x y => leC x y = true) : ∀ n, n ≤ l.length → StC (ddT l n) ∧ (0 < n → ∀ x ∈ ddT l n, ltC x (l.getD (n - 1) (0, 0)) = true ∨ x = l.getD (n - 1) (0, 0))
  | 0, _ => ⟨List.Pairwise.nil, by omega⟩
  | n + 1, hn => by
    obtain ⟨ih1, ih2⟩ := ddT_st h n (by omega)
    rw [Nat.add_sub_cancel]
    by_cases hc : n = 0 ∨ l.getD n (0, 0) ≠ l.getD (n - 1) (0, 0)
    · rw [ddT, if_pos hc]
      have hlt : ∀ x ∈ ddT l n, ltC x (l.getD n (0, 0)) = true := fun x hx => by
        rcases Nat.eq_zero_or_pos n with h0 | h0
        · subst h0; simp [ddT] at hx
        · have hne : l.getD n (0, 0) ≠ l.getD (n - 1) (0, 0) := hc.resolve_left (by omega)
          have e1 : l.getD (n - 1) (0, 0) = l[n - 1]'(by omega) := by rw [List.getD_eq_getElem?_getD, List.getElem?_eq_getElem (by omega)]; rfl
          have e2 : l.getD n (0, 0) = l[n]'(by omega) := by rw [List.getD_eq_getElem?_getD, List.getElem?_eq_getElem (by omega)]; rfl
          have hle := List.pairwise_iff_getElem.1 h (n - 1) n (by omega) (by omega) (by omega)
          rw [← e1, ← e2] at hle
          unfold leC at hle
          rw [cmpC_lt] at hle
          have hl2 : ltC (l.getD n (0, 0)) (l.getD (n - 1) (0, 0)) = false := by
            have : (!ltC (l.getD n (0, 0)) (l.getD (n - 1) (0, 0))) = true := hle
            simpa using this
          have hl3 := ltC_tot hl2 hne
          rcases ih2 h0 x hx with h5 | h5
          · exact ltC_trans h5 hl3
          · rw [h5]; exact hl3
      refine ⟨?_, fun _ x hx => ?_⟩
      · unfold StC
        rw [List.pairwise_append]
        exact ⟨ih1, List.pairwise_singleton _ _, fun x hx y hy => by rw [List.mem_singleton] at hy; subst hy; exact hlt x hx⟩
      · rcases List.mem_append.1 hx with hx | hx
        · exact .inl (hlt x hx)
        · rw [List.mem_singleton] at hx; exact .inr hx
    · rw [ddT, if_neg hc]
      have h0 : 0 < n := by
        rcases Nat.eq_zero_or_pos n with h0 | h0
        · exact absurd (.inl h0) hc
        · exact h0
      have h1 : l.getD n (0, 0) = l.getD (n - 1) (0, 0) := Classical.byContradiction fun h => hc (.inr h)
      rw [h1]
      exact ⟨ih1, fun _ => ih2 h0⟩
theorem neverL_st (v : Vw) : StC (neverL v) := by
  have hs : (srtC (nevU v)).Pairwise fun x y => leC x y = true := by
    unfold srtC
    refine List.pairwise_mergeSort (fun a b c h1 h2 => ?_) (fun a b => ?_) _
    · unfold leC at *
      simp only [Bool.not_eq_true'] at *
      exact cmpC_swo.ntrans _ _ _ h2 h1
    · unfold leC
      rw [cmpC_lt, cmpC_lt]
      simp only [Bool.or_eq_true, Bool.not_eq_true', decide_eq_false_iff_not]
      omega
  exact (ddT_st hs _ (Nat.le_refl _)).1
theorem never_eq {first : List Int} {l : List Ev} (hwf : ∀ e ∈ l, EvWf e) : nevA first l = nevR first l := by
  unfold nevA nevR
  by_cases hz : (seeOdd first.length l).2 ≠ 0
  · rw [if_pos hz, if_pos hz]
  rw [if_neg hz, if_neg hz]
  have hso := seeOdd_zero (n := first.length) (l := l) (Classical.byContradiction hz)
  have HV := allV hwf hso
  obtain ⟨-, -, -, had2⟩ := rpre hwf hso
  refine (neverL_st _).eq (nvF_st _ _ _) fun c => ?_
  rw [nvF_mem]
  have h1 : c ∈ neverL (vAll first l) ↔ c ∈ nevU (vAll first l) := by
    unfold neverL
    rw [compC_all]
    unfold srtC
    exact List.mem_mergeSort
  rw [h1]
  unfold nevU
  rw [List.mem_filter, List.mem_flatMap]
  have hr : (∃ x ∈ (vAll first l).sights, c ∈ x.reads) ↔ ∃ j, j < l.length ∧ rdE l j c := rdS_vn hwf HV c l.length (Nat.le_refl _)
  rw [hr]
  constructor
  · rintro ⟨⟨j, hj, hj2⟩, hs⟩
    have hrg := had2 j hj hj2.1
    refine ⟨⟨j, hj, hj2⟩, ?_⟩
    rw [once_seen HV (by rw [hj2.2.2]; exact hrg)]
    simpa using hs
  · rintro ⟨⟨j, hj, hj2⟩, hs⟩
    have hrg := had2 j hj hj2.1
    refine ⟨⟨j, hj, hj2⟩, ?_⟩
    rw [once_seen HV (by rw [hj2.2.2]; exact hrg)] at hs
    simpa using hs
end Go.Proofs.Ytloiadhdkgkjkaa
/- Two lists of sights that are the same: SameSights by contract. -/
namespace Go.Proofs.Ytloiadhdkgkjkaa
open Go.RowKit
set_option maxHeartbeats 40000000
set_option linter.unusedVariables false
set_option linter.unusedSimpArgs false
theorem try_equal (d : Nat) (a b c e f g h : Int) (w : World) : (Op.equalIn (d + 1 + 1) 38 (.agg #[.int .i64 a, .int .i64 b, .int .i64 c, .int .u64 e, .int .i64 f, .int .i64 g, .int .i64 h]) (.agg #[.int .i64 a, .int .i64 b, .int .i64 c, .int .u64 e, .int .i64 f, .int .i64 g, .int .i64 h])).run Try.prog w = .ok true w := by
  have h1 : Try.prog.underlying 38 = some _ := Try.underlying38
  have hi : ∀ (t : TypeId) (n m : Int) (k : IntKind) (d : Nat), Try.prog.underlying t = some (TypeDesc.int k) → (Op.equalIn (d + 1) t (.int k n) (.int k m)).run Try.prog w = .ok (n == m) w := fun t n m k d ht => run_equalIn_int w d t k k n m ht
  have hsi : Try.prog.stoodInHeld 38 = false := by kernel_rfl
  have u1 : Try.prog.underlying 3 = some _ := Try.underlying3
  have u3 : Try.prog.underlying 35 = some _ := Try.underlying35
  have u5 : Try.prog.underlying 36 = some _ := Try.underlying36
  have c1 : Try.prog.cellsOf 3 = 1 := by kernel_rfl
  have c3 : Try.prog.cellsOf 35 = 1 := by kernel_rfl
  have c5 : Try.prog.cellsOf 36 = 1 := by kernel_rfl
  rw [Op.equalIn]
  simp [run_underlying h1, part, hi, u1, u3, u5, c1, c3, c5, hsi, sizeOf, typeInfo]
theorem sight_equal (a b c e f g h i j k : Int) (w : World) : (Op.equalIn 10000 40 (.agg #[.int .i64 a, .int .i64 b, .int .i64 c, .int .u64 e, .int .i64 f, .int .i64 g, .int .i64 h, .int .i64 i, .int .i64 j, .int .i64 k]) (.agg #[.int .i64 a, .int .i64 b, .int .i64 c, .int .u64 e, .int .i64 f, .int .i64 g, .int .i64 h, .int .i64 i, .int .i64 j, .int .i64 k])).run Try.prog w = .ok true w := by
  have h1 : Try.prog.underlying 40 = some _ := Try.underlying40
  have hi : ∀ (t : TypeId) (n m : Int) (k : IntKind) (d : Nat), Try.prog.underlying t = some (TypeDesc.int k) → (Op.equalIn (d + 1) t (.int k n) (.int k m)).run Try.prog w = .ok (n == m) w := fun t n m k d ht => run_equalIn_int w d t k k n m ht
  have hsi : Try.prog.stoodInHeld 40 = false := by kernel_rfl
  have ht := fun d => try_equal d a b c e f g h w
  have u1 : Try.prog.underlying 3 = some _ := Try.underlying3
  have c1 : Try.prog.cellsOf 3 = 1 := by kernel_rfl
  have c7 : Try.prog.cellsOf 38 = 7 := by kernel_rfl
  obtain ⟨i0, hi0, hz0, hz1, hz2⟩ := info_parts try_info
  have hd : 10000 = 9997 + 1 + 1 + 1 := rfl
  rw [hd]
  generalize 9997 = d at *
  rw [Op.equalIn]
  simp [run_underlying h1, part, hi, ht, u1, c1, c7, hsi, sizeOf, typeInfo, hi0, hz1]
theorem sight_neq (a b c e f g h i j k : Int) (w : World) : (binOp .neq 40 (.agg #[.int .i64 a, .int .i64 b, .int .i64 c, .int .u64 e, .int .i64 f, .int .i64 g, .int .i64 h, .int .i64 i, .int .i64 j, .int .i64 k]) (.agg #[.int .i64 a, .int .i64 b, .int .i64 c, .int .u64 e, .int .i64 f, .int .i64 g, .int .i64 h, .int .i64 i, .int .i64 j, .int .i64 k])).run Try.prog w = .ok (.bool false) w := by
  rw [run_neq_struct (P := Try.prog) w 40 #[.int .i64 a, .int .i64 b, .int .i64 c, .int .u64 e, .int .i64 f, .int .i64 g, .int .i64 h, .int .i64 i, .int .i64 j, .int .i64 k] #[.int .i64 a, .int .i64 b, .int .i64 c, .int .u64 e, .int .i64 f, .int .i64 g, .int .i64 h, .int .i64 i, .int .i64 j, .int .i64 k], sight_equal]
  rfl
set_option maxRecDepth 100000 in
theorem rsameS_b {w : World} {va vb : Value} {l : List (Sg × Int)} (h1 : Sl 40 10 encG w va l) (h2 : Sl 40 10 encG w vb l) (hlen : (l.length : Int) ≤ 9223372036854775807) :
    Calls Try.prog 12 #[va, vb] w fun x w' => x = .returned (.bool true) ∧ ∃ n, w' = w.drewN n := by
  obtain ⟨A1, c1, rfl, -⟩ := h1.shape
  obtain ⟨A2, c2, rfl, -⟩ := h2.shape
  have hq := sight_neq
  go_enter Try.func12, Try.ntmps12
  go_wp2
  go_loopg [5] l.length (fun gk c5 wr => ∃ j nd : Nat, gk + j = l.length ∧ c5 = .int .i64 (j : Int) ∧ wr = w.drewN nd)
  case atStart => exact ⟨0, 0, rfl, rfl, rfl⟩
  case round =>
    obtain ⟨j, nd, hj, rfl, rfl⟩ := hrel
    rcases Nat.lt_or_ge j l.length with hlt | hge
    · obtain ⟨g1, o1, rfl, -, d⟩ := h1.cell encG_len (by decide) hlt
      obtain ⟨g2, o2, rfl, -, f⟩ := h2.cell encG_len (by decide) hlt
      have dd := fun q h => (d j hlt q h).1
      have ff := fun q h => (f j hlt q h).1
      generalize l[j] = e at *
      obtain ⟨⟨⟨a, b, c, e, f9f, g, h⟩, rr, i, jj⟩, k⟩ := e
      have d0 := dd 0 (by decide)
      have d1 := dd 1 (by decide)
      have d2 := dd 2 (by decide)
      have d3 := dd 3 (by decide)
      have d4 := dd 4 (by decide)
      have d5 := dd 5 (by decide)
      have d6 := dd 6 (by decide)
      have d7 := dd 7 (by decide)
      have d8 := dd 8 (by decide)
      have d9 := dd 9 (by decide)
      have f0 := ff 0 (by decide)
      have f1 := ff 1 (by decide)
      have f2 := ff 2 (by decide)
      have f3 := ff 3 (by decide)
      have f4 := ff 4 (by decide)
      have f5 := ff 5 (by decide)
      have f6 := ff 6 (by decide)
      have f7 := ff 7 (by decide)
      have f8 := ff 8 (by decide)
      have f9 := ff 9 (by decide)
      simp only [encG, List.getElem?_cons_zero, List.getElem?_cons_succ, Nat.add_zero] at d0 d1 d2 d3 d4 d5 d6 d7 d8 d9 f0 f1 f2 f3 f4 f5 f6 f7 f8 f9
      simp only [← Nat.add_assoc] at d1 d2 d3 d4 d5 d6 d7 d8 d9 f1 f2 f3 f4 f5 f6 f7 f8 f9
      have b1 : (j : Int) < l.length := by omega
      clear dd ff
      go_wp2
      go_quiet (fail)
      go_wp2
      obtain ⟨k, rfl⟩ : ∃ k, gk = k + 1 := ⟨gk - 1, by omega⟩
      go_roundg k
      case measure => omega
      case rel => exact ⟨j + 1, nd + nq, by omega, by simp, rfl⟩
    · go_wp2
      go_ret
      exact ⟨rfl, nd, rfl⟩
end Go.Proofs.Ytloiadhdkgkjkaa
/- The law's lent and left by contract: a history lent with a mark behind it. -/
namespace Go.Proofs.Ytloiadhdkgkjkaa
open Go.RowKit
set_option maxHeartbeats 40000000
set_option linter.unusedVariables false
set_option linter.unusedSimpArgs false
def markE : Ev := ⟨-7, 0, 0, 0, false, 0⟩
set_option maxRecDepth 100000 in
theorem lent_b {w : World} {A : Option Addr} {cp : Nat} {l : List Ev} (hL : LiesV w (.slice A l.length cp) l) (hsz : l.length * 48 + 480 ≤ 140737488355328) :
    Calls Try.prog 7 #[.slice A l.length cp] w fun x w' => Below w.heap.size w w' ∧ ∃ A' cap, x = .returned (.slice A' l.length cap) ∧ l.length + 1 ≤ cap ∧ Sl 61 6 encV w' (.slice A' (l.length + 1) cap) (l ++ [markE]) ∧ ∀ q, own (.slice A' (l.length + 1) cap) q → w.heap.size ≤ q := by
  have hsrc := Lib.hid hL.src
  have hlen : (l.length : Int) ≤ 9223372036854775807 := by omega
  have hz : Hid (l.length * 48 ≤ 140737488355328) := Lib.hid (by omega)
  have hz1 : Hid ((l.length + 1) * 48 ≤ 140737488355328) := Lib.hid (by omega)
  clear hL
  go_enter Try.func7, Try.ntmps7
  go_wp2_with (at_builtin; first | (refine wpList_evsN l.length w rfl (.const (.slice none 0 0)) (.tmp 4) rfl (.slice none 0 0) _ [] l l rfl (Sl.nil _) rfl hsrc.out (by simp) (by simp) (by have := hz.out; omega) hz.out ?_; intro A1 c1 w1 hc1 H1 f1; have W1 := (Sl.new (e := 61) encV_len w1 [markE] (by decide)).src encV_one) | (refine wpList_evsN (l.length + 1) (w1.alloc _) rfl (.tmp 5) (.tmp 7) rfl _ _ l [markE] (l ++ [markE]) rfl (H1.alloc _) rfl W1 rfl rfl (by have := hz1.out; omega) hz1.out ?_; intro A2 c2 w2 hc2 H2 f2))
  go_ret
  have e1 : ∀ q, own (.slice A1 l.length c1) q → w.heap.size ≤ q := f1.ge (fun q hq => absurd hq (no_own_nil q)) (Nat.le_refl _)
  have b1 : Below w.heap.size w w1 := f1.below (fun q hq => absurd hq (no_own_nil q)) (Nat.le_refl _)
  exact ⟨(b1.alloc b1.size _).trans (f2.below e1 (b1.alloc b1.size _).size), A2, c2, rfl, hc2, H2, f2.ge e1 (b1.alloc b1.size _).size⟩
theorem Sl.lcut {w : World} {A : Option Addr} {cap : Nat} {l : List Ev} (h : Sl 61 6 encV w (.slice A (l.length + 1) cap) (l ++ [markE])) (hc : l.length + 1 ≤ cap) : Sl 61 6 encV w (.slice A l.length cap) l := by
  have := Sl.cut encV_len h (m := l.length) (c := cap) (by simp) (by omega) (Nat.le_refl _)
  rwa [List.take_left] at this
set_option maxRecDepth 100000 in
theorem left_b {w : World} {A A2 : Option Addr} {cap cp : Nat} {l : List Ev} {va vb : Value} {first : List Int} (hM : Sl 61 6 encV w (.slice A (l.length + 1) cap) (l ++ [markE])) (hc : l.length + 1 ≤ cap) (hL : LiesV w (.slice A2 l.length cp) l) (hwf : ∀ e ∈ l, EvWf e) (hsz : l.length * 48 + 480 ≤ 140737488355328)
    (h1 : Lies w va first) (h2 : Lies w vb first) (hf : (first.length : Int) ≤ 9223372036854775807) :
    Calls Try.prog 13 #[.slice A l.length cap, .slice A2 l.length cp, va, vb] w fun x w' => x = .returned (.bool true) ∧ ∃ n, w' = w.drewN n := by
  have hlen : (l.length : Int) ≤ 9223372036854775807 := by omega
  have w1 := IntWalk.i64_in (n := (l.length : Int) + 1) (by omega)
  have hcI : (l.length : Int) + 1 ≤ cap := by omega
  have CS := Lib.hid (rsame_b ((hM.lcut hc).liesV hwf (by have := hL.len; omega)) hL)
  have CW := Lib.hid (fun n => words_b (h1.drewN n) (h2.drewN n) hf)
  have hM' : Sl 61 6 encV w (.slice A (l ++ [markE]).length cap) (l ++ [markE]) := by rw [List.length_append]; exact hM
  obtain ⟨g, o, rfl, hg, hcl⟩ := hM'.cell encV_len (by decide) (i := l.length) (by simp)
  have d0 := (hcl l.length (by simp) 0 (by decide)).1
  rw [List.getElem_append_right (Nat.le_refl _)] at d0
  simp only [Nat.sub_self, List.getElem_cons_zero, encV, markE, List.getElem?_cons_zero, Nat.add_zero] at d0
  have hc0 : ((cap : Nat) = 0) = False := by simp; omega
  clear hM hM' hcl hL h1 h2 hwf
  go_enter Try.func13, Try.ntmps13
  go_wp2_with fail
  refine CS.out.mono ?_
  rintro _ _ ⟨rfl, n1, rfl⟩
  go_wp2_with fail
  refine (CW.out n1).mono ?_
  rintro _ _ ⟨⟨n2, rfl⟩, rfl⟩
  go_wp2
  go_ret
  exact ⟨by simp, n1 + n2, rfl⟩
end Go.Proofs.Ytloiadhdkgkjkaa
/- OpaqueCells' walk, behind the contracts. -/
namespace Go.Proofs.Ytloiadhdkgkjkaa
open Go.RowKit
set_option maxHeartbeats 40000000
set_option linter.unusedVariables false
set_option linter.unusedSimpArgs false
theorem Wl.blw {w w' : World} {v : Value} {l : List Int} (h : Wl w v l) (hb : Below w.heap.size w w') : Wl w' v l := h.keep fun k hk => hb.block k (h.lt k hk)
def encZ (z : Int) : List Value := [.int .i64 z]
theorem encZ_len (z : Int) : (encZ z).length = 1 := rfl
theorem sl_encZ {w : World} {v : Value} {l : List Nat} (h : Sl 3 1 encI w v l) : Sl 3 1 encZ w v (l.map fun n : Nat => (n : Int)) := by
  unfold Sl at *
  rw [List.length_map, List.flatMap_map]
  exact h
theorem beh_len (first : List Int) (l : List Ev) (n : Int) : (behA first l n).2.length ≤ first.length := by
  unfold behA
  split
  · simp
  split
  · simp
  · simp [behindL]
theorem tog_len {first : List Int} {l : List Ev} (hwf : ∀ e ∈ l, EvWf e) (words : List (Int × Int)) : (togA first l words).2.length ≤ l.length + 1 := by
  unfold togA
  by_cases hz : (seeOdd first.length l).2 ≠ 0
  · rw [if_pos hz]; simp
  rw [if_neg hz]
  have HV := allV hwf (seeOdd_zero (n := first.length) (l := l) (Classical.byContradiction hz))
  split
  · simp
  · have := togK_len (vAll first l).cells words ((vAll first l).commits + 1)
    have := HV.vi.cm
    dsimp only
    omega
theorem nev_len (first : List Int) (l : List Ev) : (nevR first l).length ≤ l.length := by
  unfold nevR
  split
  · simp
  · exact nvF_len _ _ _
theorem seeOdd_eq {first : List Int} {l : List Ev} : (seeOdd first.length l) = ((seeOdd first.length l).1, (seeOdd first.length l).2) := rfl
set_option maxRecDepth 100000 in
theorem cells_law (CK : CheckC) (BH : BehindC) (TG : TogetherC) (NV : NeverC) {w : World} {Fv : Value} {A Aw : Option Addr} {cp cw : Nat} {first : List Int} {l : List Ev} {words : List (Int × Int)} (n : Int) (hF : Lies w Fv first) (hL : LiesV w (.slice A l.length cp) l) (hwf : ∀ e ∈ l, EvWf e) (hsz : l.length * 48 + 480 ≤ 140737488355328)
    (hfl : first.length * 8 ≤ 140737488355328) (hfb : ∀ x ∈ first, 0 ≤ x ∧ x ≤ 18446744073709551615) (hW : LiesP w (.slice Aw words.length cw) words) (hWn : Aw = none → cw = 0) (hWb : ∀ p ∈ words, inB p) (hWl : (words.length + 1) * 16 ≤ 140737488355328) :
    Calls Try.prog 5 #[Fv, .slice A l.length cp, .int .i64 n, .slice Aw words.length cw] w fun x w' => x = .returned (.bool true) ∧ Below w.heap.size w w' := by
  obtain ⟨Af, cf, rfl, -⟩ := (show ∃ A cp, Fv = .slice A first.length cp ∧ True from by obtain ⟨A, cp, h1, _⟩ := hF; exact ⟨A, cp, h1, trivial⟩)
  have hlen : (l.length : Int) ≤ 9223372036854775807 := by omega
  have hfi : (first.length : Int) ≤ 9223372036854775807 := by omega
  have hfl' : first.length ≤ 9223372036854775807 := by omega
  have hwi : (words.length : Int) ≤ 9223372036854775806 := by omega
  have hw0 : ∀ p ∈ words, 0 ≤ p.1 := fun p hp => (hWb p hp).1.1
  have C1 := Lib.hid (lent_b hL hsz)
  have hF8 := Lib.hid hfl
  have hW8 := Lib.hid hWl
  have hWs := Lib.hid (fun W (h : Below w.heap.size w W) => (hW.below h).src hWn)
  have EQN := never_eq (first := first) hwf
  replace hL := Lib.hid hL
  replace hF := Lib.hid hF
  replace hW := Lib.hid hW
  clear hWn
  go_enter Try.func5, Try.ntmps5
  go_wp2_with fail
  refine C1.out.mono ?_
  rintro _ w1 ⟨hb1, A1, c1, rfl, hc1, hM1, ho1'⟩
  have hF1 := hF.out.below hb1
  go_wp2_with (at_builtin; first
    | (refine wpList_wcopy w1 rfl _ _ rfl _ first rfl rfl hF1 hF8.out ?_; intro A2 c2 w2 hc2 hW2 hb2 ho2'; have hbw2 := hb1.trans (hb2.mono hb1.size); have hS2 := hWs.out w2 hbw2)
    | (refine wpList_cells words.length w2 rfl (.const (.slice none 0 0)) (.tmp 33) rfl (.slice none 0 0) _ [] words words rfl (Sl.nil _) rfl hS2 (by simp) (by simp) (by have := hW8.out; omega) (by have := hW8.out; omega) ?_; intro A3 c3 w3 hc3 hS3 hF3; have hm3 := (Sl.new (e := 45) encC_len w3 [((991 : Int), (0 : Int))] (by decide)).src encC_one)
    | (refine wpList_cells (words.length + 1) (w3.alloc _) rfl (.tmp 34) (.tmp 36) rfl _ _ _ [((991 : Int), (0 : Int))] (words ++ [((991 : Int), (0 : Int))]) rfl (hS3.alloc _) rfl hm3 (by simp) rfl (by have := hW8.out; omega) (by have := hW8.out; omega) ?_; intro A4 c4 w4 hc4 hS4 hF4))
  have hM2 := hM1.keep (w' := w2) fun k hk => hb2.block k (hM1.lt k hk)
  have hf3 : Below w2.heap.size w2 w3 := hF3.below (fun q hq => absurd hq (no_own_nil q)) (Nat.le_refl _)
  have ho3 : ∀ q, own (.slice A3 words.length c3) q → w2.heap.size ≤ q := hF3.ge (fun q hq => absurd hq (no_own_nil q)) (Nat.le_refl _)
  have hf4 : Below w2.heap.size w2 w4 := (hf3.alloc hf3.size _).trans (hF4.below ho3 (hf3.alloc hf3.size _).size)
  have hbw4 : Hid (Below w.heap.size w w4) := Lib.hid (hbw2.trans (hf4.mono hbw2.size))
  have hM4 : Hid (Sl 61 6 encV w4 (.slice A1 (l.length + 1) c1) (l ++ [markE])) := Lib.hid (hM2.keep (w' := w4) fun k hk => hf4.block k (hM2.lt k hk))
  have hW4 : Hid (Wl w4 (.slice A2 first.length c2) first) := Lib.hid (hW2.keep fun k hk => hf4.block k (hW2.lt k hk))
  have hN4 : Hid (Sl 45 2 encC w4 (.slice A4 (words.length + 1) c4) (words ++ [((991 : Int), (0 : Int))])) := Lib.hid hS4
  have OI : Hid (∀ W, Below w4.heap.size w4 W → OpIn W (.slice A2 first.length c2) (.slice A1 l.length c1) first l) := Lib.hid fun W hb =>
    ⟨hW4.out.lies.below hb, (((hM4.out.lcut hc1).liesV hwf (by have := hL.out.len; omega)).below hb (Nat.le_refl _)), hwf, hsz, hfl', hfb⟩
  have hNc : Hid (∀ W, Below w4.heap.size w4 W → LiesP W (.slice A4 words.length c4) words) := Lib.hid fun W hb => by
    have := Sl.cut encC_len hN4.out (m := words.length) (c := c4) (by simp) (by omega) (Nat.le_refl _)
    rw [List.take_left] at this
    exact (liesP_sl this).below hb
  obtain ⟨g4, o4, rfl, -, h991⟩ := (show Sl 45 2 encC w4 (.slice A4 (words ++ [((991 : Int), (0 : Int))]).length c4) (words ++ [((991 : Int), (0 : Int))]) by rw [List.length_append]; exact hS4).cell encC_len (by decide) (i := words.length) (by simp)
  have h9 : Hid (∀ W, Below w4.heap.size w4 W → W.cell? ⟨g4, o4 + words.length * 2, none⟩ = some (.int .u64 991)) := Lib.hid fun W hb => by
    have hlt := hN4.out.lt g4 (by simp [own, Value.ownBlock])
    have := (h991 words.length (by simp) 0 (by decide)).1
    rw [List.getElem_append_right (Nat.le_refl _)] at this
    simp only [Nat.sub_self, List.getElem_cons_zero, encC, List.getElem?_cons_zero, Nat.add_zero] at this
    unfold World.cell?
    rw [hb.block g4 hlt]
    exact this
  have hFx : Hid (∀ W, Below w4.heap.size w4 W → Lies W (.slice Af first.length cf) first) := Lib.hid fun W hb => hF.out.below (hbw4.out.trans (hb.mono hbw4.out.size))
  have hLx : Hid (∀ W, Below w4.heap.size w4 W → LiesV W (.slice A l.length cp) l) := Lib.hid fun W hb => hL.out.below (hbw4.out.trans (hb.mono hbw4.out.size)) (Nat.le_refl _)
  have hWx : Hid (∀ W, Below w4.heap.size w4 W → LiesP W (.slice Aw words.length cw) words) := Lib.hid fun W hb => hW.out.below (hbw4.out.trans (hb.mono hbw4.out.size))
  clear C1 hb1 hM1 ho1' hF1 hc2 hW2 hb2 ho2' hbw2 hS2 hc3 hS3 hF3 hm3 hS4 hF4 hM2 hf3 ho3 hf4 h991 hWs hF hL hW
  have hbll := beh_len first l n
  have htll := tog_len (first := first) hwf words
  have hnll := nev_len first l
  obtain ⟨b1, hb1⟩ : ∃ x, (behA first l n).1.1 = x := ⟨_, rfl⟩
  obtain ⟨b2, hb2⟩ : ∃ x, (behA first l n).1.2 = x := ⟨_, rfl⟩
  obtain ⟨bl, hbl⟩ : ∃ x, (behA first l n).2 = x := ⟨_, rfl⟩
  obtain ⟨t1, ht1⟩ : ∃ x, (togA first l words).1.1 = x := ⟨_, rfl⟩
  obtain ⟨t2, ht2⟩ : ∃ x, (togA first l words).1.2 = x := ⟨_, rfl⟩
  obtain ⟨tl, htl⟩ : ∃ x, (togA first l words).2 = x := ⟨_, rfl⟩
  obtain ⟨o1, ho1⟩ : ∃ x, (seeOdd first.length l).1 = x := ⟨_, rfl⟩
  obtain ⟨o2, ho2⟩ : ∃ x, (seeOdd first.length l).2 = x := ⟨_, rfl⟩
  obtain ⟨nl, hnl⟩ : ∃ x, nevR first l = x := ⟨_, rfl⟩
  have CB : Hid (∀ W, Below w4.heap.size w4 W → Calls Try.prog 15 #[.slice A2 first.length c2, .slice A1 l.length c1, .int .i64 n] W fun x w' => Below W.heap.size W w' ∧ ∃ ov, x = .returned (.tuple #[ov, .agg #[.int .i64 b1, .int .i64 b2]]) ∧ Wl w' ov bl ∧ ∀ q, own ov q → W.heap.size ≤ q) := Lib.hid fun W hb => by
    have := BH _ _ _ _ _ n (OI.out W hb)
    rw [hb1, hb2, hbl] at this
    exact this
  have S1 := Lib.hid (CB.out w4 (Below.refl _ _))
  go_wp2_with fail
  refine S1.out.mono ?_
  rintro _ w5 ⟨hB5, va, rfl, hVa, hoa⟩
  obtain ⟨Aa, ca, rfl, -⟩ := hVa.shape
  have hU5 := hB5.alloc hB5.size (.cells #[.int .i64 b1, .int .i64 b2] 28)
  have O5 := Blk.new w5 28 #[.int .i64 b1, .int .i64 b2]
  have S2 := Lib.hid (rbehind16_b n (hFx.out _ hU5) (hLx.out _ hU5) hwf hsz hfl')
  rw [hb1, hb2, hbl] at S2
  clear S1
  go_wp2_with fail
  refine S2.out.mono ?_
  rintro _ w6 ⟨hB6, vb, rfl, hVb, hob⟩
  obtain ⟨Ab, cb, rfl, -⟩ := hVb.shape
  have hT6 := hU5.trans (hB6.mono hU5.size)
  have hU6 := hT6.alloc hT6.size (.cells #[.int .i64 b1, .int .i64 b2] 28)
  have O6 := Blk.new w6 28 #[.int .i64 b1, .int .i64 b2]
  have S3 := Lib.hid (TG _ _ _ _ _ _ _ words (OI.out _ hU6) (hNc.out _ hU6) (by omega) hw0)
  rw [ht1, ht2, htl] at S3
  clear S2
  have hcut : ((words.length : Nat) : Int) ≤ ((words.length + 1 : Nat) : Int) := by omega
  have hcut2 : ((words.length : Nat) : Int) ≤ (c4 : Int) := by omega
  go_wp2_with fail
  refine S3.out.mono ?_
  rintro _ w7 ⟨hB7, vc, rfl, hVc, hoc⟩
  obtain ⟨Ac, cc, rfl, -⟩ := hVc.shape
  have hT7 := hU6.trans (hB7.mono hU6.size)
  have hU7 := hT7.alloc hT7.size (.cells #[.int .i64 t1, .int .i64 t2] 28)
  have O7 := Blk.new w7 28 #[.int .i64 t1, .int .i64 t2]
  have S4 := Lib.hid (rtogether16_b (hFx.out _ hU7) (hLx.out _ hU7) hwf hsz hfl' (hWx.out _ hU7) (by omega) hw0)
  rw [ht1, ht2, htl] at S4
  clear S3
  go_wp2_with fail
  refine S4.out.mono ?_
  rintro _ w8 ⟨hB8, vd, rfl, hVd⟩
  obtain ⟨Ad, cd, rfl, -⟩ := hVd.shape
  have hT8 := hU7.trans (hB8.mono hU7.size)
  have hU8 := hT8.alloc hT8.size (.cells #[.int .i64 t1, .int .i64 t2] 28)
  have O8 := Blk.new w8 28 #[.int .i64 t1, .int .i64 t2]
  have S5 := Lib.hid (NV _ _ _ _ _ (OI.out _ hU8))
  rw [ho1, ho2, EQN, hnl] at S5
  clear S4
  go_wp2_with fail
  refine S5.out.mono ?_
  rintro _ w9 ⟨hB9, ve, rfl, hVe, hoe⟩
  obtain ⟨Ae, ce, rfl, -⟩ := hVe.shape
  have hT9 := hU8.trans (hB9.mono hU8.size)
  have hU9 := hT9.alloc hT9.size (.cells #[.int .i64 o1, .int .i64 o2] 28)
  have O9 := Blk.new w9 28 #[.int .i64 o1, .int .i64 o2]
  have S6 := Lib.hid (rnever16_b (hFx.out _ hU9) (hLx.out _ hU9) hwf hsz hfl')
  rw [ho1, ho2, hnl] at S6
  clear S5
  go_wp2_with fail
  refine S6.out.mono ?_
  rintro _ w10 ⟨hB10, vf, rfl, hVf⟩
  obtain ⟨Ag, cg, rfl, -⟩ := hVf.shape
  have hT10 := hU9.trans (hB10.mono hU9.size)
  have hU10 := hT10.alloc hT10.size (.cells #[.int .i64 o1, .int .i64 o2] 28)
  have O10 := Blk.new w10 28 #[.int .i64 o1, .int .i64 o2]
  clear S6
  rw [hbl] at hbll
  rw [htl] at htll
  rw [hnl] at hnll
  have hbi : (bl.length : Int) ≤ 9223372036854775806 := by omega
  have hti : (tl.length : Int) ≤ 9223372036854775806 := by omega
  have hni : (nl.length : Int) ≤ 9223372036854775806 := by omega
  have hs6 := hB6.alloc hB6.size (.cells #[.int .i64 b1, .int .i64 b2] 28)
  have hs7 := hB7.alloc hB7.size (.cells #[.int .i64 t1, .int .i64 t2] 28)
  have hs8 := hB8.alloc hB8.size (.cells #[.int .i64 t1, .int .i64 t2] 28)
  have hs9 := hB9.alloc hB9.size (.cells #[.int .i64 o1, .int .i64 o2] 28)
  have hs10 := hB10.alloc hB10.size (.cells #[.int .i64 o1, .int .i64 o2] 28)
  have Q5 := ((((O5.blw hs6).blw hs7).blw hs8).blw hs9).blw hs10
  have Q6 := (((O6.blw hs7).blw hs8).blw hs9).blw hs10
  have Q7 := ((O7.blw hs8).blw hs9).blw hs10
  have Q8 := (O8.blw hs9).blw hs10
  have Q9 := O9.blw hs10
  have Q10 := O10
  have Ta := (((((hVa.alloc (.cells #[.int .i64 b1, .int .i64 b2] 28)).blw hs6).blw hs7).blw hs8).blw hs9).blw hs10
  have Tb := ((((hVb.alloc (.cells #[.int .i64 b1, .int .i64 b2] 28)).blw hs7).blw hs8).blw hs9).blw hs10
  have Tc := (((hVc.alloc (.cells #[.int .i64 t1, .int .i64 t2] 28)).blw hs8).blw hs9).blw hs10
  have Td := ((hVd.alloc (.cells #[.int .i64 t1, .int .i64 t2] 28)).blw hs9).blw hs10
  have Te := (hVe.alloc (.cells #[.int .i64 o1, .int .i64 o2] 28)).blw hs10
  have Tf := hVf.alloc (.cells #[.int .i64 o1, .int .i64 o2] 28)
  have za5 : w5.heap.size ≤ (w5.alloc (.cells #[.int .i64 b1, .int .i64 b2] 28)).heap.size := by simp
  have za6 : w6.heap.size ≤ (w6.alloc (.cells #[.int .i64 b1, .int .i64 b2] 28)).heap.size := by simp
  have za7 : w7.heap.size ≤ (w7.alloc (.cells #[.int .i64 t1, .int .i64 t2] 28)).heap.size := by simp
  have za8 : w8.heap.size ≤ (w8.alloc (.cells #[.int .i64 t1, .int .i64 t2] 28)).heap.size := by simp
  -- whose blocks are apart
  have gA : Hid (∀ q, own (.slice Aa bl.length ca) q → w4.heap.size ≤ q) := Lib.hid hoa
  have gC : Hid (∀ q, own (.slice Ac tl.length cc) q → w4.heap.size ≤ q) := Lib.hid fun q hq => Nat.le_trans hU6.size (hoc q hq)
  have gE : Hid (∀ q, own (.slice Ae nl.length ce) q → w4.heap.size ≤ q) := Lib.hid fun q hq => Nat.le_trans hU8.size (hoe q hq)
  have nAB : Hid (∀ q, own (.slice Ab bl.length cb) q → ¬ own (.slice Aa bl.length ca) q) := Lib.hid fun q h1 h2 => by
    have h3 := hVa.lt q h2
    have h4 := hob q h1
    omega
  have nCB : Hid (∀ q, own (.slice Ab bl.length cb) q → ¬ own (.slice Ac tl.length cc) q) := Lib.hid fun q h1 h2 => by
    have h3 := hVb.lt q h1
    have h4 := hoc q h2
    omega
  have nEB : Hid (∀ q, own (.slice Ab bl.length cb) q → ¬ own (.slice Ae nl.length ce) q) := Lib.hid fun q h1 h2 => by
    have h3 := hVb.lt q h1
    have h4 := hoe q h2
    have := hs7.size
    have := hs8.size
    omega
  have nAC : Hid (∀ q, own (.slice Ac tl.length cc) q → ¬ own (.slice Aa bl.length ca) q) := Lib.hid fun q h1 h2 => by
    have h3 := hVa.lt q h2
    have h4 := hoc q h1
    have := hs6.size
    omega
  have nAE : Hid (∀ q, own (.slice Ae nl.length ce) q → ¬ own (.slice Aa bl.length ca) q) := Lib.hid fun q h1 h2 => by
    have h3 := hVa.lt q h2
    have h4 := hoe q h1
    have := hs6.size
    have := hs7.size
    have := hs8.size
    omega
  have nCE : Hid (∀ q, own (.slice Ae nl.length ce) q → ¬ own (.slice Ac tl.length cc) q) := Lib.hid fun q h1 h2 => by
    have h3 := hVc.lt q h2
    have h4 := hoe q h1
    have := hs8.size
    omega
  obtain ⟨E, hE⟩ : ∃ E, E = w10.alloc (.cells #[.int .i64 o1, .int .i64 o2] 28) := ⟨_, rfl⟩
  rw [← hE] at Q5 Q6 Q7 Q8 Q9 Q10 Ta Tb Tc Td Te Tf hU10
  clear hs6 hs7 hs8 hs9 hs10 O5 O6 O7 O8 O9 O10 hVa hVb hVc hVd hVe hVf hB5 hB6 hB7 hB8 hB9 hB10 hU5 hT6 hU6 hT7 hU7 hT8 hU8 hT9 hU9 hT10 hoa hob hoc hoe za5 za6 za7 za8
  have y50 := (Q5.cell 0).trans (show _ = some (.int .i64 b1) from rfl)
  have y51 := (Q5.cell 1).trans (show _ = some (.int .i64 b2) from rfl)
  have y60 := (Q6.cell 0).trans (show _ = some (.int .i64 b1) from rfl)
  have y61 := (Q6.cell 1).trans (show _ = some (.int .i64 b2) from rfl)
  have y70 := (Q7.cell 0).trans (show _ = some (.int .i64 t1) from rfl)
  have y71 := (Q7.cell 1).trans (show _ = some (.int .i64 t2) from rfl)
  have y80 := (Q8.cell 0).trans (show _ = some (.int .i64 t1) from rfl)
  have y81 := (Q8.cell 1).trans (show _ = some (.int .i64 t2) from rfl)
  have y90 := (Q9.cell 0).trans (show _ = some (.int .i64 o1) from rfl)
  have y91 := (Q9.cell 1).trans (show _ = some (.int .i64 o2) from rfl)
  have yA0 := (Q10.cell 0).trans (show _ = some (.int .i64 o1) from rfl)
  have yA1 := (Q10.cell 1).trans (show _ = some (.int .i64 o2) from rfl)
  have hneB := fun W => odd_neq b1 b2 b1 b2 W
  have hneT := fun W => odd_neq t1 t2 t1 t2 W
  have hneO := fun W => odd_neq o1 o2 o1 o2 W
  simp only [decide_true, Bool.and_self, Bool.not_true] at hneB hneT hneO
  have CE1 : Hid (Calls Try.prog 21 #[.slice Aa bl.length ca, .slice Ab bl.length cb] E fun x w' => x = .returned (.bool true) ∧ ∃ n, w' = E.drewN n) := Lib.hid ((words_b Ta.lies Tb.lies (by omega)).mono fun x w' h => by obtain ⟨h1, h2⟩ := h; exact ⟨by rw [h2]; simp, h1⟩)
  have CE2 := Lib.hid (fun j => sameInts_b (Tc.drewN j) (Td.drewN j) hti)
  have CE3 := Lib.hid (fun j => sameCells_b (liesP_sl (Te.drewN j)) (liesP_sl (Tf.drewN j)) hni)
  have CE4 := Lib.hid (fun j => sameCells_b (hNc.out _ (below_drewNs hU10 j)) (hWx.out _ (below_drewNs hU10 j)) hwi)
  have h9E := h9.out E hU10
  replace hU10 := Lib.hid hU10
  replace Ta := Lib.hid Ta
  replace Tb := Lib.hid Tb
  replace Tc := Lib.hid Tc
  replace Te := Lib.hid Te
  replace hbll := Lib.hid hbll
  replace htll := Lib.hid htll
  replace hnll := Lib.hid hnll
  replace hsz := Lib.hid hsz
  replace hfl := Lib.hid hfl
  replace hfl' := Lib.hid hfl'
  replace hWl := Lib.hid hWl
  replace hc4 := Lib.hid hc4
  replace hc1 := Lib.hid hc1
  clear Td Tf Q5 Q6 Q7 Q8 Q9 Q10
  subst hE
  have hlw : (words.length : Int) < ((words.length + 1 : Nat) : Int) := by omega
  go_wp2_with fail
  refine CE1.out.mono ?_
  rintro _ _ ⟨rfl, n1, rfl⟩
  go_wp2_with fail
  refine (CE2.out _).mono ?_
  rintro _ _ ⟨rfl, n2, rfl⟩
  go_wp2_with fail
  refine (CE3.out _).mono ?_
  rintro _ _ ⟨rfl, n3, rfl⟩
  go_wp2_with fail
  refine (CE4.out _).mono ?_
  rintro _ _ ⟨rfl, n4, rfl⟩
  go_wp2_with fail
  obtain ⟨E, hE⟩ : ∃ E, E = ((w10.alloc (.cells #[.int .i64 o1, .int .i64 o2] 28)).drewN (n1 + n2 + n3 + n4)) := ⟨_, rfl⟩
  have Va := Lib.hid (Ta.out.drewN (n1 + n2 + n3 + n4))
  have Vb := Lib.hid (Tb.out.drewN (n1 + n2 + n3 + n4))
  have Vc := Lib.hid (Tc.out.drewN (n1 + n2 + n3 + n4))
  have Ve := Lib.hid (Te.out.drewN (n1 + n2 + n3 + n4))
  have hUE := Lib.hid (below_drewNs hU10.out (n1 + n2 + n3 + n4))
  rw [← hE] at Va Vb Vc Ve hUE ⊢
  replace hE := Lib.hid hE
  clear CE1 CE2 CE3 CE4 Ta Tb Tc Te hU10 y50 y51 y60 y61 y70 y71 y80 y81 y90 y91 yA0 yA1 hneB hneT hneO h9E
  go_loopg [24] bl.length (fun gk c24 wr => ∃ (k : Nat) (L : List Int), k + gk = bl.length ∧ L.length = bl.length ∧ c24 = .int .i64 (k : Int) ∧ Hid (Wl wr (.slice Aa bl.length ca) L) ∧ Hid (Fr (own (.slice Aa bl.length ca)) E (own (.slice Aa bl.length ca)) wr))
  case atStart => exact ⟨0, bl, by omega, rfl, rfl, Va, Lib.hid (Fr.refl _ _)⟩
  case round =>
    obtain ⟨k, L, hkg, hLl, rfl, hS, hFr⟩ := hrel
    cases gk with
    | succ g0 =>
      have hk : k < L.length := by omega
      have hk' : (k : Int) < (bl.length : Int) := by omega
      have w1 := IntWalk.i64_in (n := (k : Int) + 1) (by omega)
      rw [← hLl] at hS
      obtain ⟨g, o, rfl, hg, kc, kf, hset⟩ := Wl.upd hS.out hk
      have hS2 := Lib.hid (hset 99)
      have hF2 := Lib.hid (hFr.out.set (p := ⟨g, o + k, none⟩) (.inl (by simp [own, Value.ownBlock])) (.int .u64 99))
      rw [List.length_set, hLl] at hS2
      clear hset hS hFr Va
      go_wp2
      go_roundg g0
      case measure => omega
      case rel => exact ⟨k + 1, _, by omega, by rw [List.length_set]; exact hLl, by go_num, hS2, hF2⟩
    | zero =>
      have hkz : k = bl.length := by omega
      subst hkz
      have hbi' := hbi
      have Vb1 := Lib.hid (Vb.out.keep fun q hq => hFr.out.block q (Vb.out.lt q hq) (nAB.out q hq))
      have Vc1 := Lib.hid (Vc.out.fr hFr.out nAC.out)
      have Ve1 := Lib.hid (Ve.out.fr hFr.out nAE.out)
      have hU1 := Lib.hid (hUE.out.trans (hFr.out.below gA.out hUE.out.size))
      obtain ⟨E1, hE1⟩ : ∃ E1 : World, E1 = wr := ⟨_, rfl⟩
      subst hE1
      clear Va Vb Vc Ve hUE hS hFr nAB nAC nAE
      go_wp2
      go_loopg [25] tl.length (fun gk c25 wr => ∃ (k : Nat) (L : List Int), k + gk = tl.length ∧ L.length = tl.length ∧ c25 = .int .i64 (k : Int) ∧ Hid (Sl 3 1 encZ wr (.slice Ac tl.length cc) L) ∧ Hid (Fr (own (.slice Ac tl.length cc)) E1 (own (.slice Ac tl.length cc)) wr))
      case atStart => exact ⟨0, _, by omega, by rw [List.length_map], rfl, Lib.hid (sl_encZ Vc1.out), Lib.hid (Fr.refl _ _)⟩
      case round =>
        obtain ⟨k, L, hkg, hLl, rfl, hS, hFr⟩ := hrel
        cases gk with
        | succ g0 =>
          have hk : k < L.length := by omega
          have hk' : (k : Int) < (tl.length : Int) := by omega
          have w1 := IntWalk.i64_in (n := (k : Int) + 1) (by omega)
          obtain ⟨g, o, rfl, hg, hcc⟩ := hS.out.cell encZ_len (by decide) hk
          obtain ⟨s0, f0⟩ := hcc k hk 0 (by decide)
          have u1 := hS.out.upd encZ_len (i := k) (j := 0) hk (by decide) (.int .i64 (-9)) (-9) rfl
          simp only [encZ, List.getElem?_cons_zero, Nat.mul_one, Nat.add_zero] at s0 f0 u1
          have hF2 := Lib.hid (hFr.out.set (p := ⟨g, o + k, none⟩) (.inl (by simp [own, Value.ownBlock])) (.int .i64 (-9)))
          replace u1 := Lib.hid u1
          clear hcc hS hFr Vc1
          go_wp2
          go_roundg g0
          case measure => omega
          case rel => exact ⟨k + 1, _, by omega, by rw [List.length_set]; exact hLl, by go_num, u1, hF2⟩
        | zero =>
          have hkz : k = tl.length := by omega
          subst hkz
          have hti' := hti
          have Vb2 := Lib.hid (Vb1.out.keep fun q hq => hFr.out.block q (Vb1.out.lt q hq) (nCB.out q hq))
          have Ve2 := Lib.hid (Ve1.out.fr hFr.out nCE.out)
          have hU2 := Lib.hid (hU1.out.trans (hFr.out.below gC.out hU1.out.size))
          obtain ⟨E2, hE2⟩ : ∃ E2 : World, E2 = wr := ⟨_, rfl⟩
          subst hE2
          clear Vb1 Vc1 Ve1 hU1 hS hFr nCB nCE
          go_wp2
          go_loopg [26] nl.length (fun gk c26 wr => ∃ (k : Nat) (L : List (Int × Int)), k + gk = nl.length ∧ L.length = nl.length ∧ c26 = .int .i64 (k : Int) ∧ Hid (Sl 45 2 encC wr (.slice Ae nl.length ce) L) ∧ Hid (Fr (own (.slice Ae nl.length ce)) E2 (own (.slice Ae nl.length ce)) wr))
          case atStart => exact ⟨0, nl, by omega, rfl, rfl, Ve2, Lib.hid (Fr.refl _ _)⟩
          case round =>
            obtain ⟨k, L, hkg, hLl, rfl, hS, hFr⟩ := hrel
            cases gk with
            | succ g0 =>
              have hk : k < L.length := by omega
              have hk' : (k : Int) < (nl.length : Int) := by omega
              have w1 := IntWalk.i64_in (n := (k : Int) + 1) (by omega)
              obtain ⟨g, o, rfl, hg, hcc⟩ := hS.out.cell encC_len (by decide) hk
              obtain ⟨s0, f0⟩ := hcc k hk 0 (by decide)
              obtain ⟨s1, f1⟩ := hcc k hk 1 (by decide)
              have u1 := hS.out.upd encC_len (i := k) (j := 0) hk (by decide) (.int .u64 0) (0, (L[k]'hk).2) rfl
              have u2 := u1.upd encC_len (i := k) (j := 1) (by rw [List.length_set]; exact hk) (by decide) (.int .u64 0) (0, 0) (by rw [List.getElem_set_self]; rfl)
              rw [List.set_set] at u2
              rw [show o + (k * 2 + 0) = o + k * 2 by omega] at s0 f0 u2
              rw [show o + (k * 2 + 1) = o + k * 2 + 1 by omega] at s1 f1 u2
              simp only [encC, List.getElem?_cons_zero, List.getElem?_cons_succ] at s0 s1
              have hF2 := Lib.hid ((hFr.out.set (p := ⟨g, o + k * 2, none⟩) (.inl (by simp [own, Value.ownBlock])) (.int .u64 0)).set (p := ⟨g, o + k * 2 + 1, none⟩) (.inl (by simp [own, Value.ownBlock])) (.int .u64 0))
              replace u2 := Lib.hid u2
              clear hcc hS hFr Ve2 u1
              generalize (L[k]'hk).1 = p0 at *
              generalize (L[k]'hk).2 = p1 at *
              go_wp2
              go_roundg g0
              case measure => omega
              case rel => exact ⟨k + 1, _, by omega, by rw [List.length_set]; exact hLl, by go_num, u2, hF2⟩
            | zero =>
              have hkz : k = nl.length := by omega
              subst hkz
              have hni' := hni
              have Vb3 := Lib.hid (Vb2.out.keep fun q hq => hFr.out.block q (Vb2.out.lt q hq) (nEB.out q hq))
              have hU3 := Lib.hid (hU2.out.trans (hFr.out.below gE.out hU2.out.size))
              obtain ⟨E3, hE3⟩ : ∃ E3 : World, E3 = wr := ⟨_, rfl⟩
              subst hE3
              clear Vb2 Ve2 hU2 hS hFr nEB
              have S7 := Lib.hid (CB.out E3 hU3.out)
              go_wp2_with fail
              refine S7.out.mono ?_
              rintro _ w11 ⟨hB11, vg, rfl, hVg, hog⟩
              obtain ⟨Ah, ch, rfl, -⟩ := hVg.shape
              have hT11 := hU3.out.trans (hB11.mono hU3.out.size)
              obtain ⟨Z, hZ⟩ : ∃ Z, Z = w11.alloc (.cells #[.int .i64 b1, .int .i64 b2] 28) := ⟨_, rfl⟩
              have hUZ : Hid (Below w4.heap.size w4 Z) := Lib.hid (by rw [hZ]; exact hT11.alloc hT11.size _)
              have VgZ : Wl Z (.slice Ah bl.length ch) bl := by rw [hZ]; exact hVg.alloc _
              have VbZ : Wl Z (.slice Ab bl.length cb) bl := by rw [hZ]; exact (Vb3.out.blw hB11).alloc _
              have CW : Hid (Calls Try.prog 21 #[.slice Ah bl.length ch, .slice Ab bl.length cb] Z fun x w' => x = .returned (.bool true) ∧ ∃ n, w' = Z.drewN n) := Lib.hid ((words_b VgZ.lies VbZ.lies (by omega)).mono fun x w' h => by obtain ⟨h1, h2⟩ := h; exact ⟨by rw [h2]; simp, h1⟩)
              have CL := Lib.hid (fun j => left_b (((hM4.out.blw hUZ.out).drewN j)) hc1.out (hLx.out _ (below_drewNs hUZ.out j)) hwf hsz.out (((hW4.out.blw hUZ.out).drewN j).lies) (hFx.out _ (below_drewNs hUZ.out j)) hfi)
              have KN := Lib.hid (known_b CK BH)
              clear VgZ VbZ hVg hog hB11 hT11 S7 Vb3 hU3
              replace hZ := Lib.hid hZ
              go_wp2_with fail
              rw [← hZ.out]
              refine CW.out.mono ?_
              rintro _ _ ⟨rfl, m1, rfl⟩
              go_wp2_with fail
              refine (CL.out _).mono ?_
              rintro _ _ ⟨rfl, m2, rfl⟩
              go_wp2_with fail
              refine (KN.out _).mono ?_
              rintro _ w12 ⟨rfl, hB12⟩
              have hfin := Lib.hid ((hbw4.out.trans ((below_drewNs hUZ.out (m1 + m2)).mono hbw4.out.size)).trans (hB12.mono (hbw4.out.trans ((below_drewNs hUZ.out (m1 + m2)).mono hbw4.out.size)).size))
              go_wp2
              go_ret
              exact ⟨rfl, hfin.out⟩
end Go.Proofs.Ytloiadhdkgkjkaa
/- opaque: Sights, Check, Behind by contract, over any cells and history in memory. -/
namespace Go.Proofs.Ytloiadhdkgkjkaa
open Go.RowKit
set_option maxHeartbeats 4000000
set_option linter.unusedVariables false
set_option linter.unusedSimpArgs false
theorem see_b {w : World} {Af A : Option Addr} {first : List Int} {l : List Ev} {cf cp : Nat} (hF : Lies w (.slice Af first.length cf) first) (hL : LiesV w (.slice A l.length cp) l) (hsz : l.length * 48 + 480 ≤ 140737488355328) (hfl : first.length ≤ 9223372036854775807) (hfb : ∀ x ∈ first, 0 ≤ x ∧ x ≤ 18446744073709551615) :
    Calls Try.prog 26 #[.slice Af first.length cf, .slice A l.length cp] w (SeeP w first l) := by
  by_cases hn : first.length = 0 ∨ 65536 < first.length
  · refine (see_len hn hfl).mono ?_
    rintro x w' ⟨hb, rfl⟩
    have h : seeOdd first.length l = (-1, 2) := by unfold seeOdd; rw [if_pos hn]
    exact ⟨hb, .inl ⟨by rw [h]; simp, by rw [h]⟩⟩
  · exact see_main hF hL hsz (by omega) (by omega) hfb
theorem sights_s {w : World} {Fv Hv : Value} {first : List Int} {l : List Ev} (h0 : OpIn w Fv Hv first l) : Calls Try.prog 8 #[Fv, Hv] w (SigP w (seeOdd first.length l) (sightsOf (vAll first l))) := by
  obtain ⟨hF, hL, hwf, hsz, hfl, hfb⟩ := h0
  obtain ⟨Af, cf, rfl, _⟩ := (show ∃ A cp, Fv = .slice A first.length cp ∧ True from by obtain ⟨A, cp, h1, _⟩ := hF; exact ⟨A, cp, h1, trivial⟩)
  obtain ⟨A, cp, rfl, _⟩ := hL.shape
  unfold vAll
  by_cases h : seeOdd first.length l = (-1, 0)
  · obtain ⟨-, -, hp, hf⟩ := seeOdd_ok h
    refine (sights_b (fun W hb => see_b (hF.below hb) (hL.below hb (Nat.le_refl _)) hsz hfl hfb) (fun _ => VJ.vn hwf hf (Nat.le_refl _)) hsz (fun _ hok => sights_bound hwf hok hp hf hsz)).mono ?_
    rintro x w' ⟨hb, ⟨h1, rfl⟩ | ⟨h1, hok, ov, rfl, hS, ho⟩⟩
    · exact ⟨hb, .inl ⟨h1, rfl⟩⟩
    · exact ⟨hb, .inr ⟨h1, ov, rfl, hS, ho⟩⟩
  · refine (sights_b (fun W hb => see_b (hF.below hb) (hL.below hb (Nat.le_refl _)) hsz hfl hfb) (fun e => absurd e h) hsz (fun e => absurd e h)).mono ?_
    rintro x w' ⟨hb, ⟨h1, rfl⟩ | ⟨h1, hok, ov, rfl, hS, ho⟩⟩
    · exact ⟨hb, .inl ⟨h1, rfl⟩⟩
    · exact absurd h1 h
theorem sights_c : SightsC := fun w Fv Hv first l h0 => sights_c' (sights_s h0)
theorem check_c : CheckC := fun w Fv Hv first l h0 => by
  refine (check_b (fun W hb => sights_s (h0.below hb)) ?_).mono ?_
  · unfold sightsOf
    rw [List.length_map]
    have h1 := vn_len first (rn l l.length).tries l l.length
    have h2 := h0.sz
    unfold vAll
    omega
  · rintro x w' ⟨rfl, hb⟩
    exact ⟨hb, rfl⟩
theorem behind_c : BehindC := fun w Fv Hv first l n h0 => by
  obtain ⟨hF, hL, hwf, hsz, hfl, hfb⟩ := h0
  obtain ⟨Af, cf, rfl, _⟩ := (show ∃ A cp, Fv = .slice A first.length cp ∧ True from by obtain ⟨A, cp, h1, _⟩ := hF; exact ⟨A, cp, h1, trivial⟩)
  obtain ⟨A, cp, rfl, _⟩ := hL.shape
  refine (behind_b n (fun W hb => see_b (hF.below hb) (hL.below hb (Nat.le_refl _)) hsz hfl hfb) (fun h => VJ.vn hwf (seeOdd_ok h).2.2.2 (Nat.le_refl _)) hsz).mono ?_
  rintro x w' ⟨hb, ⟨h1, rfl⟩ | ⟨h1, hok, ⟨h2, rfl⟩ | ⟨h2, h3, ov, rfl, hW, ho⟩⟩⟩
  · refine ⟨hb, _, ?_, ?_, fun q hq => absurd hq (no_own_nil q)⟩
    · unfold behA; rw [if_pos h1]
    · unfold behA; rw [if_pos h1]; exact Wl.nil _
  · have h4 : ¬ (seeOdd first.length l).2 ≠ 0 := by rw [h1]; simp
    refine ⟨hb, _, ?_, ?_, fun q hq => absurd hq (no_own_nil q)⟩
    · unfold behA vAll; rw [if_neg h4, if_pos h2]
    · unfold behA vAll; rw [if_neg h4, if_pos h2]; exact Wl.nil _
  · have h4 : ¬ (seeOdd first.length l).2 ≠ 0 := by rw [h1]; simp
    have h5 : ¬ (n < 0 ∨ ((vn first (rn l l.length).tries l l.length).commits : Int) < n) := by omega
    refine ⟨hb, ov, ?_, ?_, ho⟩
    · unfold behA vAll; rw [if_neg h4, if_neg h5]
    · unfold behA vAll; rw [if_neg h4, if_neg h5]; exact hW
end Go.Proofs.Ytloiadhdkgkjkaa
