/- The document's attempts: Tries by contract, over a history that can be. -/
import Derived.Test.YtloiadhdkgkjkaaEvR
import Derived.Deep.LoopGhost
import Derived.Deep.DeepCutAuto
import Derived.Test.YtloiadhdkgkjkaaPSg1
import Derived.Test.YtloiadhdkgkjkaaPSg7
namespace Go.Proofs.Ytloiadhdkgkjkaa
open Go.RowKit
set_option maxHeartbeats 40000000
set_option linter.unusedVariables false
set_option linter.unusedSimpArgs false
/-- The attempts that begin in the first n events. -/
def trsF (l : List Ev) : Nat → List Tr
  | 0 => []
  | n + 1 => if (evAt l n).kd = 1 then trsF l n ++ [tryF l n] else trsF l n
theorem trsF_len (l : List Ev) : ∀ n, (trsF l n).length ≤ n
  | 0 => Nat.le_refl _
  | n + 1 => by
    have := trsF_len l n
    unfold trsF
    split
    · simp; omega
    · omega
set_option maxRecDepth 100000 in
theorem rtries_b {w : World} {A : Option Addr} {cp : Nat} {l : List Ev} (hL : LiesV w (.slice A l.length cp) l) (hwf : ∀ e ∈ l, EvWf e) (hsz : l.length * 48 + 480 ≤ 140737488355328) (hok : odd l = (-1, 0)) (hcn : ∀ n, n ≤ l.length → (trsF l n).length * 56 ≤ 140737488355328) :
    Calls Try.prog 33 #[.slice A l.length cp] w fun x w' => Below w.heap.size w w' ∧ ∃ ov, x = .returned (.tuple #[ov, .agg #[.int .i64 (-1), .int .i64 0]]) ∧ Sl 38 7 encT w' ov (trsF l l.length) ∧ ∀ q, own ov q → w.heap.size ≤ q := by
  have hlen : (l.length : Int) ≤ 9223372036854775807 := by omega
  have hR1 := Blk.new w 28 #[.int .i64 0, .int .i64 0]
  have hb1 := (Below.refl w.heap.size w).alloc (Nat.le_refl _) (.cells #[.int .i64 0, .int .i64 0] 28)
  have C1 := Lib.hid (rcheck_b (hL.below hb1 (Nat.le_refl _)) hwf hsz)
  rw [hok] at C1
  replace hR1 := Lib.hid hR1
  replace hb1 := Lib.hid hb1
  replace hL := Lib.hid hL
  replace hcn := Lib.hid hcn
  go_enter Try.func33, Try.ntmps33
  go_wp2_with fail
  refine C1.out.mono ?_
  rintro _ w2 ⟨rfl, hb2⟩
  have hR2 := hR1.out.below hb2 hR1.out.lt
  have hbw2 := hb1.out.trans (hb2.mono hb1.out.size)
  obtain ⟨w3, hw3⟩ : ∃ w3, w3 = w2.alloc (.cells #[.int .i64 (-1), .int .i64 0] 28) := ⟨_, rfl⟩
  have hR3 : Hid (Blk w3 w.heap.size 28 #[.int .i64 0, .int .i64 0]) := Lib.hid (by rw [hw3]; exact hR2.alloc _)
  have hO3 : Hid (Blk w3 w2.heap.size 28 #[.int .i64 (-1), .int .i64 0]) := Lib.hid (by rw [hw3]; exact Blk.new _ _ _)
  have hb3 : Hid (Below w.heap.size w w3) := Lib.hid (by rw [hw3]; exact hbw2.alloc hbw2.size _)
  have hne : w.heap.size ≠ w2.heap.size := Nat.ne_of_lt hR2.lt
  have hlt2 : Hid (w.heap.size < w2.heap.size) := Lib.hid hR2.lt
  subst hw3
  have x1 := (hO3.out.cell 1).trans (show _ = some (.int .i64 0) from rfl)
  clear hb2 hR2 hbw2 C1 hb1 hR1
  go_wp2_with fail
  go_loopw [5, 6] (fun c5 c6 wr => ∃ n : Nat, n ≤ l.length ∧ c6 = .int .i64 (n : Int) ∧ Hid (Sl 38 7 encT wr c5 (trsF l n)) ∧ Hid (∀ q, own c5 q → w.heap.size ≤ q) ∧ Hid (Blk wr w.heap.size 28 #[.int .i64 0, .int .i64 0]) ∧ Hid (Blk wr w2.heap.size 28 #[.int .i64 (-1), .int .i64 0]) ∧ Hid (Below w.heap.size w wr)) (fun _ c6 _ => l.length - (intOf c6).toNat)
  case atStart => exact ⟨0, Nat.zero_le _, rfl, Lib.hid (Sl.nil _), Lib.hid (fun q hq => absurd hq (no_own_nil q)), hR3, hO3, hb3⟩
  case round =>
    obtain ⟨n, hn, rfl, hS, hown, hR, hO, hbr⟩ := hrel
    clear hR3 hO3 hb3 x1
    by_cases hlt : n < l.length
    · have b1 : (n : Int) < l.length := by omega
      have w1 := IntWalk.i64_in (n := (n : Int) + 1) (by omega)
      have hLr := hL.out.below hbr.out (Nat.le_refl _)
      obtain ⟨g, o, rfl, hc⟩ := hLr.at hlt
      obtain ⟨-, d1, -, -, -, -⟩ := hc n hlt
      have hu : Hid (trsF l (n + 1) = if (evAt l n).kd = 1 then trsF l n ++ [tryF l n] else trsF l n) := Lib.hid rfl
      have hc1 := hcn.out (n + 1) (by omega)
      rw [hu.out] at hc1
      generalize (evAt l n).kd = x1 at *
      clear hc
      by_cases h1 : x1 = 1
      · subst h1
        rw [if_pos rfl] at hu hc1
        rw [List.length_append, List.length_singleton] at hc1
        have CT := rtry_b hLr hlt
        obtain ⟨y, hy⟩ : ∃ y, tryF l n = y := ⟨_, rfl⟩
        rw [hy] at CT hu
        obtain ⟨y0, y1, y2, y3, y4, y5, y6⟩ := y
        dsimp only [encT] at CT
        replace CT := Lib.hid CT
        replace hy := Lib.hid hy
        replace hc1 := Lib.hid hc1
        clear hLr
        go_wp2_with fail
        refine CT.out.mono ?_
        rintro _ w4 ⟨rfl, hb4⟩
        have hS4 := Lib.hid (hS.out.keep (w' := w4) fun k hk => hb4.block k (hS.out.lt k hk))
        have hR4 := hR.out.below hb4 hR.out.lt
        have hO4 := hO.out.below hb4 hO.out.lt
        have hbw4 := hbr.out.trans (hb4.mono hbr.out.size)
        have FIN : Hid (∀ A5 cap5 w5, Sl 38 7 encT w5 (.slice A5 ((trsF l n).length + 1) cap5) (trsF l n ++ [⟨y0, y1, y2, y3, y4, y5, y6⟩]) → Fr (own _) w4 (own (.slice A5 ((trsF l n).length + 1) cap5)) w5 → Sl 38 7 encT w5 (.slice A5 ((trsF l n).length + 1) cap5) (trsF l (n + 1)) ∧ (∀ q, own (.slice A5 ((trsF l n).length + 1) cap5) q → w.heap.size ≤ q) ∧ Blk w5 w.heap.size 28 #[.int .i64 0, .int .i64 0] ∧ Blk w5 w2.heap.size 28 #[.int .i64 (-1), .int .i64 0] ∧ Below w.heap.size w w5) := Lib.hid fun A5 cap5 w5 hS5 hF5 =>
          ⟨by rw [hu.out]; exact hS5, hF5.ge hown.out hbw4.size, hF5.blk hR4 (hS4.out.ne_ hR4 (by decide)), hF5.blk hO4 (hS4.out.ne_ hO4 (by decide)), hbw4.trans (hF5.below hown.out hbw4.size)⟩
        clear hb4 hS hR hO hbr CT hR4 hO4 hbw4
        go_wp2_with (at_builtin; refine wpList_try w4 rfl (.tmp 25) (.tmp 29) rfl _ (trsF l n) ⟨y0, y1, y2, y3, y4, y5, y6⟩ rfl hS4.out rfl hc1.out ?_; intro A5 cap5 w5 hc5 hS5 hF5; have FN := Lib.hid (FIN.out A5 cap5 w5 hS5 hF5); clear hS5 hF5)
        go_roundw
        case rel => exact ⟨n + 1, hlt, by go_num, Lib.hid FN.out.1, Lib.hid FN.out.2.1, Lib.hid FN.out.2.2.1, Lib.hid FN.out.2.2.2.1, Lib.hid FN.out.2.2.2.2⟩
        case measure => simp [intOf]; omega
      · have f1 : (x1 == 1) = false := by simpa using h1
        rw [if_neg h1] at hu
        clear hLr
        go_wp2
        go_roundw
        case rel => exact ⟨n + 1, hlt, by go_num, by rw [hu.out]; exact hS, hown, hR, hO, hbr⟩
        case measure => simp [intOf]; omega
    · have hn2 : n = l.length := by omega
      subst hn2
      obtain ⟨A5, cap5, rfl, -⟩ := hS.out.shape
      have x0 := (hO.out.cell 0).trans (show _ = some (.int .i64 (-1)) from rfl)
      have x1 := (hO.out.cell 1).trans (show _ = some (.int .i64 0) from rfl)
      have r0 := (hR.out.cell 0).trans (show _ = some (.int .i64 0) from rfl)
      have r1 := (hR.out.cell 1).trans (show _ = some (.int .i64 0) from rfl)
      have f0 := hR.out.frozen 0
      have f1 := hR.out.frozen 1
      have hS9 := Lib.hid (fun j jj => ((hS.out.drewN j).set (p := ⟨w.heap.size, 0, none⟩) (hS.out.ne_ hR.out (by decide)) (.int .i64 (-1))).set (p := ⟨w.heap.size, 1, none⟩) (hS.out.ne_ hR.out (by decide)) (.int .i64 0) |>.drewN jj)
      have hb9 := Lib.hid (fun j jj => below_drewNs (((below_drewNs hbr.out j).setCell (p := ⟨w.heap.size, 0, none⟩) (Nat.le_refl _) (.int .i64 (-1))).setCell (p := ⟨w.heap.size, 1, none⟩) (Nat.le_refl _) (.int .i64 0)) jj)
      clear hS hR hO hbr
      go_wp2
      refine wp_region_mixH (fun _ => True) [3, 1, 3, 2] (List.range 4) (by kernel_rfl) (by kernel_rfl) (fun _ _ h => h) trivial ?_
      (repeat ((first | refine wpMixH_pure rfl rfl (fun K hK => ?_) | refine wpMixH_loc rfl rfl (fun K hK => ?_) | refine wpMixH_any rfl rfl (fun K hK => ?_)); go_simp; refine hK _ _ ?_; clear hK K))
      refine wpMixH_loud rfl rfl (fun n1 K hK => ?_)
      go_wp2
      refine hK _ _ (fun _ => trivial) ?_; clear hK K
      refine wpMixH_nil (fun n2 => ?_)
      go_wp2
      refine bodyPost_ret (v := .tuple #[.slice A5 (trsF l l.length).length cap5, .agg #[.int .i64 (-1), .int .i64 0]]) (by simp [results, Try.results33, go_sem, r0, r1, f0, f1]) rfl ⟨hb9.out _ _, _, rfl, hS9.out _ _, hown.out⟩
end Go.Proofs.Ytloiadhdkgkjkaa
/- opaque.Sights by contract, behind see's. -/
namespace Go.Proofs.Ytloiadhdkgkjkaa
open Go.RowKit
set_option maxHeartbeats 4000000
set_option linter.unusedVariables false
set_option linter.unusedSimpArgs false
theorem gO_info : (Try.prog.info? 40).map (fun i => (i.zero, i.size, i.bytes)) = some (some (.agg #[.int .i64 0, .int .i64 0, .int .i64 0, .int .u64 0, .int .i64 0, .int .i64 0, .int .i64 0, .int .i64 0, .int .i64 0, .int .i64 0]), 10, 80) := by kernel_rfl
theorem wpList_gO {ops : Array Oper} {rest : List Oper} {o : Oper} {a : Act} {Q : Exit → Act → World → Prop} (wr : World) (hgd : o.guard = none) (s x : Operand)
    (ho : o.op = .call { callee := .builtin .append, args := #[s, x], argTypes := #[25, 25] })
    (v : Value) (l : List (Sg × Int)) (y : Sg × Int) (hs : a.eval s = v) (hl : Sl 40 10 encG wr v l) (hx : a.eval x = .slice (some ⟨wr.heap.size, 0, none⟩) 1 1) (hb1 : l.length + 1 ≤ 9223372036854775807) (hlen : (l.length + 1) * 80 ≤ 140737488355328)
    (h : ∀ A cap w', l.length + 1 ≤ cap → Sl 40 10 encG w' (.slice A (l.length + 1) cap) (l ++ [y]) → Fr (own v) wr (own (.slice A (l.length + 1) cap)) w' → wpList Try.prog ops Q rest (a.put o.dst (.slice A (l.length + 1) cap)) w') :
    wpList Try.prog ops Q (o :: rest) a (wr.alloc (.cells (encG y).toArray 40)) :=
  wpList_one (enc := encG) encG_len encG_one wr hgd s x 25 ho Try.underlying25 gO_info rfl (by decide) v l y hs hl hx hb1 hlen h
set_option maxRecDepth 100000 in
theorem sights_b {w : World} {Af A : Option Addr} {first : List Int} {l : List Ev} {cf cp : Nat}
    (SEE : ∀ W, Below w.heap.size w W → Calls Try.prog 26 #[.slice Af first.length cf, .slice A l.length cp] W (SeeP W first l))
    (hJ : seeOdd first.length l = (-1, 0) → VJ (vn first (rn l l.length).tries l l.length) first.length) (hsz : l.length * 48 + 480 ≤ 140737488355328)
    (hsl : seeOdd first.length l = (-1, 0) → okTo l l.length → ((vn first (rn l l.length).tries l l.length).sights.length + 1) * 96 ≤ 140737488355328) :
    Calls Try.prog 8 #[.slice Af first.length cf, .slice A l.length cp] w fun x w' => Below w.heap.size w w' ∧ (((seeOdd first.length l).2 ≠ 0 ∧ x = .returned (.tuple #[.slice none 0 0, .agg #[.int .i64 (seeOdd first.length l).1, .int .i64 (seeOdd first.length l).2]])) ∨
      (seeOdd first.length l = (-1, 0) ∧ okTo l l.length ∧ ∃ ov, x = .returned (.tuple #[ov, .agg #[.int .i64 (-1), .int .i64 0]]) ∧ Sl 40 10 encG w' ov (sightsOf (vn first (rn l l.length).tries l l.length)) ∧ ∀ q, own ov q → w.heap.size ≤ q)) := by
  have hR1 := Blk.new w 28 #[.int .i64 0, .int .i64 0]
  have hb1 := (Below.refl w.heap.size w).alloc (Nat.le_refl _) (.cells #[.int .i64 0, .int .i64 0] 28)
  have S1 := Lib.hid (SEE _ hb1)
  replace hR1 := Lib.hid hR1
  replace hb1 := Lib.hid hb1
  replace hJ := Lib.hid hJ
  replace hsz := Lib.hid hsz
  replace hsl := Lib.hid hsl
  obtain ⟨w1, hw1⟩ : ∃ w1, w1 = w.alloc (.cells #[.int .i64 0, .int .i64 0] 28) := ⟨_, rfl⟩
  rw [← hw1] at hR1 hb1 S1
  have hs1 : w1.heap.size = w.heap.size + 1 := by rw [hw1]; simp
  replace hw1 := Lib.hid hw1
  clear SEE
  go_enter Try.func8, Try.ntmps8
  go_wp2_with fail
  go_step3
  go_wp2_with fail
  rw [← hw1.out]
  refine S1.out.mono ?_
  rintro e w2 ⟨hb2, (⟨ho, rfl⟩ | ⟨ho, hok, B, vb, nb, mb, fv, cv, sv, hB, rfl, hV, hVI⟩)⟩
  · obtain ⟨at0, hat0⟩ : ∃ x, (seeOdd first.length l).1 = x := ⟨_, rfl⟩
    obtain ⟨er0, her0⟩ : ∃ x, (seeOdd first.length l).2 = x := ⟨_, rfl⟩
    rw [hat0, her0]
    replace hat0 := Lib.hid hat0
    replace her0 := Lib.hid her0
    have hR2 := hR1.out.below hb2 hR1.out.lt
    have hb3 := Lib.hid ((hb1.out.trans (hb2.mono hb1.out.size)).alloc (hb1.out.trans (hb2.mono hb1.out.size)).size (.cells #[.int .i64 at0, .int .i64 er0] 28))
    have hR3 := hR2.alloc (.cells #[.int .i64 at0, .int .i64 er0] 28)
    have r0 := hR3.cell 0
    have r1 := hR3.cell 1
    have f0 := hR3.frozen 0
    have f1 := hR3.frozen 1
    simp only [List.getElem?_toArray, List.getElem?_cons_zero, List.getElem?_cons_succ] at r0 r1
    have hlt2 := hR2.lt
    have hne2 : w.heap.size ≠ w2.heap.size := by omega
    clear hb2 hR2 hR3 hR1 S1
    replace ho := Lib.hid ho
    go_wp2
    refine wp_region_mixH (fun _ => True) [1, 3, 2] (List.range 3) (by kernel_rfl) (by kernel_rfl) (fun _ _ h => h) trivial ?_
    (repeat ((first | refine wpMixH_pure rfl rfl (fun K hK => ?_) | refine wpMixH_loc rfl rfl (fun K hK => ?_) | refine wpMixH_any rfl rfl (fun K hK => ?_)); go_simp; refine hK _ _ ?_; clear hK K))
    refine wpMixH_loud rfl rfl (fun n1 K hK => ?_)
    go_wp2
    refine hK _ _ (fun _ => trivial) ?_; clear hK K
    refine wpMixH_nil (fun n2 => ?_)
    go_wp2
    try rw [Exit.noGoto_ret]
    refine bodyPost_ret (v := .tuple #[.slice none 0 0, .agg #[.int .i64 at0, .int .i64 er0]]) (by simp [results, Try.results8, go_sem, r0, r1, f0, f1]) rfl ⟨below_drewNs (((below_drewNs hb3.out _).setCell (Nat.le_refl _) _).setCell (Nat.le_refl _) _) _, .inl ⟨ho.out, by rw [hat0.out, her0.out]⟩⟩
  · obtain ⟨vv, hvv⟩ : ∃ vv, vv = vn first (rn l l.length).tries l l.length := ⟨_, rfl⟩
    rw [← hvv] at hV hVI hJ hsl
    have hVJ := Lib.hid (hJ.out ho)
    have hco := Lib.hid (cellsOk hVI hVJ.out (by have := hsz.out; omega))
    have hslen := Lib.hid (hsl.out ho hok)
    have hbw := Lib.hid (hb1.out.trans (hb2.mono hb1.out.size))
    have hR2 := Lib.hid (hR1.out.below hb2 hR1.out.lt)
    have hlt2 := hR2.out.lt
    obtain ⟨A2, cap2, hsv, hcap2, hA2⟩ := hV.svs
    subst hsv
    obtain ⟨w3, hw3⟩ : ∃ w3, w3 = (w2.alloc (.cells #[.int .i64 (-1), .int .i64 0] 28)).alloc (.cells #[] 40) := ⟨_, rfl⟩
    have hO3 : Blk w3 w2.heap.size 28 #[.int .i64 (-1), .int .i64 0] := by rw [hw3]; exact (Blk.new _ _ _).alloc _
    have hN3 : Sl 40 10 encG w3 (.slice (some ⟨w2.heap.size + 1, 0, none⟩) 0 0) [] := by
      have := Sl.new (e := 40) encG_len (w2.alloc (.cells #[.int .i64 (-1), .int .i64 0] 28)) [] (by simp)
      rw [World.size_alloc] at this
      rw [hw3]; exact this
    have hB3 : Below w2.heap.size w2 w3 := by rw [hw3]; exact ((Below.refl _ _).alloc (Nat.le_refl _) _).alloc (by simp) _
    have v3 := (hV.below hB3).c3
    rw [hw3] at v3
    have hlen : (vv.sights.length : Int) ≤ 9223372036854775807 := by have := hslen.out; omega
    replace hO3 := Lib.hid hO3
    replace hN3 := Lib.hid hN3
    replace hB3 := Lib.hid hB3
    replace hV := Lib.hid hV
    replace hVI := Lib.hid hVI
    replace hvv := Lib.hid hvv
    replace hw3 := Lib.hid hw3
    clear S1 hb2 hR1 hb1 hJ hsl
    go_wp2
    go_step3
    go_wp2
    rw [← hw3.out]
    go_loopg [8, 28] vv.sights.length (fun gk ov i wx => ∃ k : Nat, k + gk = vv.sights.length ∧ i = .int .i64 k ∧ Hid (Sl 40 10 encG wx ov ((sightsOf vv).take k)) ∧ Hid (∀ q, own ov q → w2.heap.size ≤ q) ∧ Hid (Blk wx w2.heap.size 28 #[.int .i64 (-1), .int .i64 0]) ∧ Hid (Below w2.heap.size w2 wx))
    case atStart => exact ⟨0, by omega, rfl, by simpa using hN3, Lib.hid fun q hq => by simp [own, Value.ownBlock] at hq; omega, hO3, hB3⟩
    case round =>
      obtain ⟨k, hkg, rfl, hS, hown, hO, hB2⟩ := hrel
      clear hN3 hO3 hB3 v3
      cases gk with
      | zero =>
        have hkz : k = vv.sights.length := by omega
        subst hkz
        have hR4 := hR2.out.below (hB2.out.mono (Nat.le_refl _)) hlt2
        have r0 := hR4.cell 0
        have r1 := hR4.cell 1
        have f0 := hR4.frozen 0
        have f1 := hR4.frozen 1
        have o0 := hO.out.cell 0
        have o1 := hO.out.cell 1
        simp only [List.getElem?_toArray, List.getElem?_cons_zero, List.getElem?_cons_succ] at r0 r1 o0 o1
        have hS4 : Hid (Sl 40 10 encG wr u8 (sightsOf vv)) := Lib.hid (by have := hS.out; rwa [List.take_of_length_le (by unfold sightsOf; simp)] at this)
        have hnR : ¬ own u8 w.heap.size := fun h => by have := hown.out _ h; omega
        have hb4 := Lib.hid (hbw.out.trans (hB2.out.mono (Nat.le_of_lt hlt2)))
        have hne2 : w.heap.size ≠ w2.heap.size := by omega
        have hfin : Hid (∀ j jj, Sl 40 10 encG ((((wr.drewN j).setCell ⟨w.heap.size, 0, none⟩ (.int .i64 (-1))).setCell ⟨w.heap.size, 1, none⟩ (.int .i64 0)).drewN jj) u8 (sightsOf vv)) := Lib.hid (fun j jj => (((hS4.out.drewN j).set (p := ⟨w.heap.size, 0, none⟩) hnR _).set (p := ⟨w.heap.size, 1, none⟩) hnR _).drewN jj)
        have hown2 := Lib.hid (fun q (hq : own u8 q) => Nat.le_trans (Nat.le_of_lt hlt2) (hown.out q hq))
        clear hR4 hS hO hB2 hV hVI hown
        rw [hvv.out] at hfin
        go_wp2
        refine wp_region_mixH (fun _ => True) [3, 1, 3, 2] (List.range 4) (by kernel_rfl) (by kernel_rfl) (fun _ _ h => h) trivial ?_
        (repeat ((first | refine wpMixH_pure rfl rfl (fun K hK => ?_) | refine wpMixH_loc rfl rfl (fun K hK => ?_) | refine wpMixH_any rfl rfl (fun K hK => ?_)); go_simp; refine hK _ _ ?_; clear hK K))
        refine wpMixH_loud rfl rfl (fun n1 K hK => ?_)
        go_wp2
        refine hK _ _ (fun _ => trivial) ?_; clear hK K
        refine wpMixH_nil (fun n2 => ?_)
        go_wp2
        try rw [Exit.noGoto_ret]
        refine bodyPost_ret (v := .tuple #[u8, .agg #[.int .i64 (-1), .int .i64 0]]) (by simp [results, Try.results8, go_sem, r0, r1, f0, f1]) rfl ⟨below_drewNs (((below_drewNs hb4.out _).setCell (Nat.le_refl _) _).setCell (Nat.le_refl _) _) _, .inr ⟨ho, hok, u8, rfl, hfin.out _ _, hown2.out⟩⟩
      | succ g0 =>
        have hlt : k < vv.sights.length := by omega
        have hlt' : (k : Int) < (vv.sights.length : Int) := by omega
        obtain ⟨gs, os, hA3⟩ := hA2 (by omega)
        subst hA3
        have hVx := Lib.hid (hV.out.below hB2.out)
        have hsx := hVx.out.sights
        obtain ⟨x, hx⟩ : ∃ x, x = vv.sights[k]'hlt := ⟨_, rfl⟩
        have xc : ∀ j, j < 10 → wr.cell? ⟨gs, os + (k * 10 + j), none⟩ = (encS (x, fv (8 + k)))[j]? := fun j hj => by rw [hx]; exact (sl_sx hsx hlt hj).1
        have x0 : wr.cell? ⟨gs, os + k * 10, none⟩ = some (.int .i64 x.tr.th) := (xc 0 (by decide)).trans rfl
        have x1 : wr.cell? ⟨gs, os + k * 10 + 1, none⟩ = some (.int .i64 x.tr.first) := by rw [Nat.add_assoc]; exact (xc 1 (by decide)).trans rfl
        have x2 : wr.cell? ⟨gs, os + k * 10 + 2, none⟩ = some (.int .i64 x.tr.last) := by rw [Nat.add_assoc]; exact (xc 2 (by decide)).trans rfl
        have x3 : wr.cell? ⟨gs, os + k * 10 + 3, none⟩ = some (.int .u64 x.tr.sn) := by rw [Nat.add_assoc]; exact (xc 3 (by decide)).trans rfl
        have x4 : wr.cell? ⟨gs, os + k * 10 + 4, none⟩ = some (.int .i64 x.tr.how) := by rw [Nat.add_assoc]; exact (xc 4 (by decide)).trans rfl
        have x5 : wr.cell? ⟨gs, os + k * 10 + 5, none⟩ = some (.int .i64 x.tr.rd) := by rw [Nat.add_assoc]; exact (xc 5 (by decide)).trans rfl
        have x6 : wr.cell? ⟨gs, os + k * 10 + 6, none⟩ = some (.int .i64 x.tr.wr) := by rw [Nat.add_assoc]; exact (xc 6 (by decide)).trans rfl
        obtain ⟨Ar, capr, hfr, hcr⟩ := (hVx.out.fam (8 + k) (by omega)).shape
        have hreads : content vv (8 + k) = x.reads := by unfold content; rw [if_neg (by omega), show 8 + k - 8 = k by omega, sg_get hlt, hx]
        rw [hreads] at hfr hcr
        have x7 : wr.cell? ⟨gs, os + k * 10 + 7, none⟩ = some (.slice Ar x.reads.length capr) := by rw [Nat.add_assoc, ← hfr]; exact (xc 7 (by decide)).trans rfl
        have x8 : wr.cell? ⟨gs, os + k * 10 + 8, none⟩ = some (.int .i64 x.fr) := by rw [Nat.add_assoc]; exact (xc 8 (by decide)).trans rfl
        have x9 : wr.cell? ⟨gs, os + k * 10 + 9, none⟩ = some (.int .i64 x.upto) := by rw [Nat.add_assoc]; exact (xc 9 (by decide)).trans rfl
        have hxm : x ∈ vv.sights := by rw [hx]; exact List.getElem_mem hlt
        have hxr := Lib.hid (hVJ.out.rd x hxm)
        have hxl : x.reads.length ≤ 9223372036854775807 := by have := hVI.out.rd x hxm; have := hsz.out; omega
        have hupl : (x.upto : Int) + 1 ≤ 9223372036854775807 := by have := (hVJ.out.up x hxm).2; have := hVI.out.cm; have := hsz.out; omega
        have hLr : LiesP wr (.slice Ar x.reads.length capr) x.reads := by
          have := liesP_sl (hVx.out.fam (8 + k) (by omega))
          rw [hreads, hfr] at this
          exact this
        have hsucc : Hid ((sightsOf vv).take (k + 1) = (sightsOf vv).take k ++ [(x, atOf vv.cells x)]) := Lib.hid (by
          rw [List.take_add_one, List.getElem?_eq_getElem (show k < (sightsOf vv).length by unfold sightsOf; simpa using hlt)]
          unfold sightsOf
          rw [hx]
          simp)
        have htl : ((sightsOf vv).take k).length = k := by rw [List.length_take]; unfold sightsOf; simp; omega
        obtain ⟨L, hL⟩ : ∃ L, L = (sightsOf vv).take k := ⟨_, rfl⟩
        rw [← hL] at hsucc htl hS
        have hLlen : Hid ((L.length + 1) * 80 ≤ 140737488355328) := Lib.hid (by rw [htl]; have := hslen.out; omega)
        replace hL := Lib.hid hL
        obtain ⟨wA, hwA⟩ : ∃ wA, wA = (wr.alloc (.cells #[.int .i64 x.tr.th, .int .i64 x.tr.first, .int .i64 x.tr.last, .int .u64 x.tr.sn, .int .i64 x.tr.how, .int .i64 x.tr.rd, .int .i64 x.tr.wr, .slice Ar x.reads.length capr, .int .i64 x.fr, .int .i64 x.upto] 70)).alloc (.cells #[.int .i64 x.tr.th, .int .i64 x.tr.first, .int .i64 x.tr.last, .int .u64 x.tr.sn, .int .i64 x.tr.how, .int .i64 x.tr.rd, .int .i64 x.tr.wr, .int .i64 x.fr, .int .i64 x.upto, .int .i64 (-1)] 40) := ⟨_, rfl⟩
        have hbA : Below wr.heap.size wr wA := by rw [hwA]; exact ((Below.refl _ _).alloc (Nat.le_refl _) _).alloc (by simp) _
        have hsbA : Blk wA wr.heap.size 70 #[.int .i64 x.tr.th, .int .i64 x.tr.first, .int .i64 x.tr.last, .int .u64 x.tr.sn, .int .i64 x.tr.how, .int .i64 x.tr.rd, .int .i64 x.tr.wr, .slice Ar x.reads.length capr, .int .i64 x.fr, .int .i64 x.upto] := by rw [hwA]; exact (Blk.new _ _ _).alloc _
        have hxbA : Blk wA (wr.heap.size + 1) 40 #[.int .i64 x.tr.th, .int .i64 x.tr.first, .int .i64 x.tr.last, .int .u64 x.tr.sn, .int .i64 x.tr.how, .int .i64 x.tr.rd, .int .i64 x.tr.wr, .int .i64 x.fr, .int .i64 x.upto, .int .i64 (-1)] := by
          have := Blk.new (wr.alloc (.cells #[.int .i64 x.tr.th, .int .i64 x.tr.first, .int .i64 x.tr.last, .int .u64 x.tr.sn, .int .i64 x.tr.how, .int .i64 x.tr.rd, .int .i64 x.tr.wr, .slice Ar x.reads.length capr, .int .i64 x.fr, .int .i64 x.upto] 70)) 40 #[.int .i64 x.tr.th, .int .i64 x.tr.first, .int .i64 x.tr.last, .int .u64 x.tr.sn, .int .i64 x.tr.how, .int .i64 x.tr.rd, .int .i64 x.tr.wr, .int .i64 x.fr, .int .i64 x.upto, .int .i64 (-1)]
          rw [World.size_alloc] at this
          rw [hwA]; exact this
        have hVA := Lib.hid (hVx.out.below hbA)
        have hLA := Lib.hid (hLr.below hbA)
        have hSA := Lib.hid (hS.out.keep (w' := wA) fun q hq => hbA.block q (hS.out.lt q hq))
        have hOA := Lib.hid (hO.out.below hbA hO.out.lt)
        have hBA := Lib.hid (hB2.out.trans (hbA.mono hB2.out.size))
        have hs2r := hB2.out.size
        have hrA : wr.heap.size < wA.heap.size := hsbA.lt
        replace hsbA := Lib.hid hsbA
        replace hxbA := Lib.hid hxbA
        replace hwA := Lib.hid hwA
        replace hx := Lib.hid hx
        replace htl := Lib.hid htl
        have holt := Lib.hid hS.out.lt
        clear hbA hVx hsx xc hS hO hB2 hLr hfr hcr hreads hxm
        obtain ⟨wq, hwq⟩ : ∃ wq : World, wq = wr := ⟨_, rfl⟩
        subst hwq
        go_upto_region 10 with (fail)
        rw [← hwA.out]
        obtain ⟨xb, hxb⟩ : ∃ xb, xb = wq.heap.size + 1 := ⟨_, rfl⟩
        obtain ⟨sb, hsb⟩ : ∃ sb, sb = wq.heap.size := ⟨_, rfl⟩
        rw [← hxb] at hxbA ⊢
        rw [← hsb] at hsbA hrA hs2r ⊢
        replace hxb := Lib.hid hxb
        replace hsb := Lib.hid hsb
        clear x0 x1 x2 x3 x4 x5 x6 x7 x8 x9
        obtain ⟨ov0, hov0⟩ : ∃ ov0, ov0 = u8 := ⟨_, rfl⟩
        subst hov0
        replace hxl := Lib.hid hxl
        replace hupl := Lib.hid hupl
        replace hs1 := Lib.hid hs1
        replace hkg := Lib.hid hkg
        replace hrA := Lib.hid hrA
        replace hs2r := Lib.hid hs2r
        replace hlt := Lib.hid hlt
        replace hB := Lib.hid hB
        replace hlt2 := Lib.hid hlt2
        replace hcap2 := Lib.hid hcap2
        replace ho := Lib.hid ho
        clear hA2
        go_loopg [8, 12] (x.upto + 1) (fun gk ov n wx => ov0 = ov ∧ gk ≤ x.upto + 1 ∧ n = .int .i64 ((gk : Int) - 1) ∧ Hid (atOf vv.cells x = seekS vv.cells x.reads x.fr gk) ∧ Hid (Below wA.heap.size wA wx))
        case atStart => exact ⟨rfl, Nat.le_refl _, by congr 1; omega, Lib.hid rfl, Lib.hid (Below.refl _ _)⟩
        case round =>
          obtain ⟨rfl, hgu, rfl, hat, hbx⟩ := hrel
          replace hgu := Lib.hid hgu
          have hsbx := hsbA.out.below hbx.out hsbA.out.lt
          have z0 := (hsbx.cell 7).trans (show _ = some (.slice Ar x.reads.length capr) from rfl)
          have z1 := (hsbx.cell 8).trans (show _ = some (.int .i64 x.fr) from rfl)
          have z2 := (hsbx.cell 9).trans (show _ = some (.int .i64 x.upto) from rfl)
          clear hsbx
          cases gk with
          | zero =>
            have hneg : ¬ ((x.fr : Int) ≤ -1) := by omega
            have hSF := hSA.out.keep (w' := wr) fun q hq => hbx.out.block q (hSA.out.lt q hq)
            have hOF := hOA.out.below hbx.out hOA.out.lt
            have hBF := hBA.out.trans (hbx.out.mono hBA.out.size)
            have hXF := hxbA.out.below hbx.out hxbA.out.lt
            have hatv : Hid (atOf vv.cells x = -1) := Lib.hid (by rw [hat.out]; rfl)
            have y0 := (hXF.cell 0).trans (show _ = some (.int .i64 x.tr.th) from rfl)
            have y1 := (hXF.cell 1).trans (show _ = some (.int .i64 x.tr.first) from rfl)
            have y2 := (hXF.cell 2).trans (show _ = some (.int .i64 x.tr.last) from rfl)
            have y3 := (hXF.cell 3).trans (show _ = some (.int .u64 x.tr.sn) from rfl)
            have y4 := (hXF.cell 4).trans (show _ = some (.int .i64 x.tr.how) from rfl)
            have y5 := (hXF.cell 5).trans (show _ = some (.int .i64 x.tr.rd) from rfl)
            have y6 := (hXF.cell 6).trans (show _ = some (.int .i64 x.tr.wr) from rfl)
            have y7 := (hXF.cell 7).trans (show _ = some (.int .i64 x.fr) from rfl)
            have y8 := (hXF.cell 8).trans (show _ = some (.int .i64 x.upto) from rfl)
            have y9 := (hXF.cell 9).trans (show _ = some (.int .i64 (-1)) from rfl)
            have hsF : w2.heap.size ≤ (wr).heap.size := hBF.size
            have HAPP := Lib.hid (fun (A4 : Option Addr) (cap4 : Nat) (w4 : World) (hS4 : Sl 40 10 encG w4 (.slice A4 (L.length + 1) cap4) (L ++ [(x, ((-1) : Int))])) (hF4 : Fr (own ov0) (wr) (own (.slice A4 (L.length + 1) cap4)) w4) => show ∃ k' : Nat, k' + g0 = vv.sights.length ∧ Value.int IntKind.i64 ((k : Int) + 1) = .int .i64 k' ∧ Hid (Sl 40 10 encG w4 (.slice A4 (L.length + 1) cap4) ((sightsOf vv).take k')) ∧ Hid (∀ q, own (.slice A4 (L.length + 1) cap4) q → w2.heap.size ≤ q) ∧ Hid (Blk w4 w2.heap.size 28 #[.int .i64 (-1), .int .i64 0]) ∧ Hid (Below w2.heap.size w2 w4) from
              ⟨k + 1, by have := hkg.out; omega, by go_num, Lib.hid (by rw [hsucc.out, hatv.out]; exact hS4), Lib.hid (fun q hq => (hF4.new q hq).elim (hown.out q) fun h => Nat.le_trans hsF h), Lib.hid (hF4.blk hOF (Sl.ne_ hSF hOF (by decide))), Lib.hid (hBF.trans (hF4.below hown.out hsF))⟩)
            replace hSF := Lib.hid hSF
            clear hXF hOF hBF hsF
            go_wp2_with (at_builtin; refine wpList_gO (wr) rfl (.tmp 58) (.tmp 60) rfl ov0 L (x, ((-1) : Int)) rfl hSF.out (by first | rfl | simp [World.setCell]) (by have := hLlen.out; omega) hLlen.out ?_; intro A4 cap4 w4 hc4 hS4 hF4; have HREL := Lib.hid (HAPP.out A4 cap4 w4 hS4 hF4); clear hS4 hF4)
            go_roundg g0
            case measure => omega
            case rel => exact HREL.out
          | succ j =>
            rw [show ((j + 1 : Nat) : Int) - 1 = (j : Int) by omega]
            by_cases hfr : x.fr ≤ j
            · have hfr' : (x.fr : Int) ≤ (j : Int) := by omega
              have hjj : (j : Int) ≤ 9223372036854775807 := by have := hupl.out; have := hgu.out; omega
              have ST := Lib.hid (stood_b (hVA.out.below hbx.out) hco.out (hLA.out.below hbx.out) hxl.out hxr.out j)
              obtain ⟨b, hb⟩ : ∃ b, b = stoodW vv.cells j x.reads := ⟨_, rfl⟩
              rw [← hb] at ST
              replace hb := Lib.hid hb
              replace hjj := Lib.hid hjj
              replace hfr := Lib.hid hfr
              cases b with
              | true =>
                go_upto_region 13 with (refine ST.out.mono ?_; rintro _ w5 ⟨rfl, hb5⟩)
                have hb6 := hbx.out.trans (hb5.mono hbx.out.size)
                have hX5 := hxbA.out.below hb6 hxbA.out.lt
                have y9' := (hX5.cell 9).trans (show _ = some (.int .i64 (-1)) from rfl)
                have f9' := hX5.frozen 9
                have hXF : Blk (w5.setCell ⟨xb, 9, none⟩ (.int .i64 j)) xb 40 #[.int .i64 x.tr.th, .int .i64 x.tr.first, .int .i64 x.tr.last, .int .u64 x.tr.sn, .int .i64 x.tr.how, .int .i64 x.tr.rd, .int .i64 x.tr.wr, .int .i64 x.fr, .int .i64 x.upto, .int .i64 j] := by have := hX5.set_ 9 (.int .i64 j); simpa using this
                have hS5 := hSA.out.keep (w' := w5) fun q hq => hb6.block q (hSA.out.lt q hq)
                have hO5 := hOA.out.below hb6 hOA.out.lt
                have hB5 := hBA.out.trans (hb6.mono hBA.out.size)
                have hnx : ¬ own ov0 xb := fun h => by have := holt.out _ h; rw [hxb.out] at this; omega
                have hSF := hS5.set (p := ⟨xb, 9, none⟩) hnx (.int .i64 j)
                have hOF := hO5.far (p := ⟨xb, 9, none⟩) (hO5.ne_ hX5 (by decide)) (.int .i64 j)
                have hgx : w2.heap.size ≤ xb := by rw [hxb.out]; have := hs2r.out; rw [hsb.out] at this; omega
                have hBF := hB5.setCell (p := ⟨xb, 9, none⟩) hgx (.int .i64 j)
                have hatv : Hid (atOf vv.cells x = (j : Int)) := Lib.hid (by rw [hat.out]; unfold seekS; rw [if_neg (by have := hfr.out; omega), if_pos hb.out.symm])
                clear hX5 hS5 hO5 hB5 hb5 hnx hb6
                replace hgx := Lib.hid hgx
                have y0 := (hXF.cell 0).trans (show _ = some (.int .i64 x.tr.th) from rfl)
                have y1 := (hXF.cell 1).trans (show _ = some (.int .i64 x.tr.first) from rfl)
                have y2 := (hXF.cell 2).trans (show _ = some (.int .i64 x.tr.last) from rfl)
                have y3 := (hXF.cell 3).trans (show _ = some (.int .u64 x.tr.sn) from rfl)
                have y4 := (hXF.cell 4).trans (show _ = some (.int .i64 x.tr.how) from rfl)
                have y5 := (hXF.cell 5).trans (show _ = some (.int .i64 x.tr.rd) from rfl)
                have y6 := (hXF.cell 6).trans (show _ = some (.int .i64 x.tr.wr) from rfl)
                have y7 := (hXF.cell 7).trans (show _ = some (.int .i64 x.fr) from rfl)
                have y8 := (hXF.cell 8).trans (show _ = some (.int .i64 x.upto) from rfl)
                have y9 := (hXF.cell 9).trans (show _ = some (.int .i64 j) from rfl)
                have hsF : w2.heap.size ≤ (w5.setCell ⟨xb, 9, none⟩ (.int .i64 j)).heap.size := hBF.size
                have HAPP := Lib.hid (fun (A4 : Option Addr) (cap4 : Nat) (w4 : World) (hS4 : Sl 40 10 encG w4 (.slice A4 (L.length + 1) cap4) (L ++ [(x, (j : Int))])) (hF4 : Fr (own ov0) (w5.setCell ⟨xb, 9, none⟩ (.int .i64 j)) (own (.slice A4 (L.length + 1) cap4)) w4) => show ∃ k' : Nat, k' + g0 = vv.sights.length ∧ Value.int IntKind.i64 ((k : Int) + 1) = .int .i64 k' ∧ Hid (Sl 40 10 encG w4 (.slice A4 (L.length + 1) cap4) ((sightsOf vv).take k')) ∧ Hid (∀ q, own (.slice A4 (L.length + 1) cap4) q → w2.heap.size ≤ q) ∧ Hid (Blk w4 w2.heap.size 28 #[.int .i64 (-1), .int .i64 0]) ∧ Hid (Below w2.heap.size w2 w4) from
                  ⟨k + 1, by have := hkg.out; omega, by go_num, Lib.hid (by rw [hsucc.out, hatv.out]; exact hS4), Lib.hid (fun q hq => (hF4.new q hq).elim (hown.out q) fun h => Nat.le_trans hsF h), Lib.hid (hF4.blk hOF (Sl.ne_ hSF hOF (by decide))), Lib.hid (hBF.trans (hF4.below hown.out hsF))⟩)
                replace hSF := Lib.hid hSF
                clear hXF hOF hBF hsF
                have hz9 : Hid ((w5.setCell ⟨xb, 9, none⟩ (.int .i64 j)).heap.size = w5.heap.size) := Lib.hid (by simp [World.setCell])
                go_wp2_with (at_builtin; refine wpList_gO (w5.setCell ⟨xb, 9, none⟩ (.int .i64 j)) rfl (.tmp 54) (.tmp 56) rfl ov0 L (x, (j : Int)) rfl hSF.out (by rw [hz9.out]; rfl) (by have := hLlen.out; omega) hLlen.out ?_; intro A4 cap4 w4 hc4 hS4 hF4; have HREL := Lib.hid (HAPP.out A4 cap4 w4 hS4 hF4); clear hS4 hF4)
                go_roundg g0
                case measure => omega
                case rel => exact HREL.out
              | false =>
                have hat' : Hid (atOf vv.cells x = seekS vv.cells x.reads x.fr j) := Lib.hid (by rw [hat.out, show seekS vv.cells x.reads x.fr (j + 1) = if j < x.fr then -1 else if stoodW vv.cells j x.reads = true then (j : Int) else seekS vv.cells x.reads x.fr j from rfl, if_neg (by have := hfr.out; omega), if_neg (by rw [← hb.out]; decide)])
                have hwj : IntKind.i64.wrap ((j : Int) - 1) = (j : Int) - 1 := IntWalk.i64_in _ (by have := hjj.out; omega)
                go_wp2_with fail
                refine ST.out.mono ?_
                rintro _ w5 ⟨rfl, hb5⟩
                have hb6 := Lib.hid (hbx.out.trans (hb5.mono hbx.out.size))
                clear hb5
                go_wp2
                go_roundg j
                case measure => omega
                case rel => exact ⟨rfl, by have := hgu.out; omega, rfl, hat', hb6⟩
            · have hfr' : ¬ (x.fr : Int) ≤ (j : Int) := by omega
              have hSF := hSA.out.keep (w' := wr) fun q hq => hbx.out.block q (hSA.out.lt q hq)
              have hOF := hOA.out.below hbx.out hOA.out.lt
              have hBF := hBA.out.trans (hbx.out.mono hBA.out.size)
              have hXF := hxbA.out.below hbx.out hxbA.out.lt
              have hatv : Hid (atOf vv.cells x = -1) := Lib.hid (by rw [hat.out]; unfold seekS; rw [if_pos (by omega)])
              have y0 := (hXF.cell 0).trans (show _ = some (.int .i64 x.tr.th) from rfl)
              have y1 := (hXF.cell 1).trans (show _ = some (.int .i64 x.tr.first) from rfl)
              have y2 := (hXF.cell 2).trans (show _ = some (.int .i64 x.tr.last) from rfl)
              have y3 := (hXF.cell 3).trans (show _ = some (.int .u64 x.tr.sn) from rfl)
              have y4 := (hXF.cell 4).trans (show _ = some (.int .i64 x.tr.how) from rfl)
              have y5 := (hXF.cell 5).trans (show _ = some (.int .i64 x.tr.rd) from rfl)
              have y6 := (hXF.cell 6).trans (show _ = some (.int .i64 x.tr.wr) from rfl)
              have y7 := (hXF.cell 7).trans (show _ = some (.int .i64 x.fr) from rfl)
              have y8 := (hXF.cell 8).trans (show _ = some (.int .i64 x.upto) from rfl)
              have y9 := (hXF.cell 9).trans (show _ = some (.int .i64 (-1)) from rfl)
              have hsF : w2.heap.size ≤ (wr).heap.size := hBF.size
              have HAPP := Lib.hid (fun (A4 : Option Addr) (cap4 : Nat) (w4 : World) (hS4 : Sl 40 10 encG w4 (.slice A4 (L.length + 1) cap4) (L ++ [(x, ((-1) : Int))])) (hF4 : Fr (own ov0) (wr) (own (.slice A4 (L.length + 1) cap4)) w4) => show ∃ k' : Nat, k' + g0 = vv.sights.length ∧ Value.int IntKind.i64 ((k : Int) + 1) = .int .i64 k' ∧ Hid (Sl 40 10 encG w4 (.slice A4 (L.length + 1) cap4) ((sightsOf vv).take k')) ∧ Hid (∀ q, own (.slice A4 (L.length + 1) cap4) q → w2.heap.size ≤ q) ∧ Hid (Blk w4 w2.heap.size 28 #[.int .i64 (-1), .int .i64 0]) ∧ Hid (Below w2.heap.size w2 w4) from
                ⟨k + 1, by have := hkg.out; omega, by go_num, Lib.hid (by rw [hsucc.out, hatv.out]; exact hS4), Lib.hid (fun q hq => (hF4.new q hq).elim (hown.out q) fun h => Nat.le_trans hsF h), Lib.hid (hF4.blk hOF (Sl.ne_ hSF hOF (by decide))), Lib.hid (hBF.trans (hF4.below hown.out hsF))⟩)
              replace hSF := Lib.hid hSF
              clear hXF hOF hBF hsF
              go_wp2_with (at_builtin; refine wpList_gO (wr) rfl (.tmp 58) (.tmp 60) rfl ov0 L (x, ((-1) : Int)) rfl hSF.out (by first | rfl | simp [World.setCell]) (by have := hLlen.out; omega) hLlen.out ?_; intro A4 cap4 w4 hc4 hS4 hF4; have HREL := Lib.hid (HAPP.out A4 cap4 w4 hS4 hF4); clear hS4 hF4)
              go_roundg g0
              case measure => omega
              case rel => exact HREL.out
end Go.Proofs.Ytloiadhdkgkjkaa
/- The document's Sights, plain, and what its walk holds in memory. -/
namespace Go.Proofs.Ytloiadhdkgkjkaa
open Go.RowKit
set_option maxHeartbeats 40000000
set_option linter.unusedVariables false
set_option linter.unusedSimpArgs false
/-- Where, from fr on, in n numbers of commits, words stood last; -1: nowhere. -/
def atR (L : List (List Int)) (words : List (Int × Int)) (fr : Nat) : Nat → Int
  | 0 => -1
  | n + 1 => if stoodR (L.getD (fr + n) []) words = true then ((fr + n : Nat) : Int) else atR L words fr n
def wordsR (l : List Ev) (y : Tr) : List (Int × Int) := rdF l y.th y.first (y.last + 1 - y.first)
def frR (W : List Nat) (y : Tr) : Nat := W.countP fun c => decide (c < y.first)
def upR (W : List Nat) (y : Tr) : Nat := W.countP fun c => decide (c ≤ y.last)
def siR (l : List Ev) (W : List Nat) (L : List (List Int)) (y : Tr) : Sg × Int := (⟨y, wordsR l y, frR W y, upR W y⟩, atR L (wordsR l y) (frR W y) (upR W y + 1 - frR W y))
def sigR (first : List Int) (l : List Ev) : List (Sg × Int) :=
  if (seeOdd first.length l).2 ≠ 0 then [] else (trsF l l.length).map (siR l (wrS l l.length).2 (stS first l (wrS l l.length).2 (wrS l l.length).2.length).2)
theorem tryS_rng {l : List Ev} {a : Nat} (ha : a < l.length) : ∀ n, a + 1 + n ≤ l.length → (tryS l a n).1.first = a ∧ a ≤ (tryS l a n).1.last ∧ (tryS l a n).1.last < l.length
  | 0, _ => ⟨rfl, Nat.le_refl _, ha⟩
  | n + 1, hn => by
    have h := tryS_rng ha n (by omega)
    show (if (tryS l a n).2 = true ∨ _ then tryS l a n else _ : Tr × Bool).1.first = a ∧ a ≤ (if (tryS l a n).2 = true ∨ _ then tryS l a n else _ : Tr × Bool).1.last ∧ (if (tryS l a n).2 = true ∨ _ then tryS l a n else _ : Tr × Bool).1.last < l.length
    split
    · exact h
    · unfold updR
      dsimp only
      omega
theorem tryF_rng {l : List Ev} {a : Nat} (ha : a < l.length) : (tryF l a).first = a ∧ a ≤ (tryF l a).last ∧ (tryF l a).last < l.length := tryS_rng ha _ (by omega)
theorem trsF_mem {l : List Ev} : ∀ {n : Nat}, n ≤ l.length → ∀ y ∈ trsF l n, ∃ a, a < n ∧ y = tryF l a
  | 0, _, y, hy => by simp [trsF] at hy
  | n + 1, hn, y, hy => by
    unfold trsF at hy
    split at hy
    · rw [List.mem_append, List.mem_singleton] at hy
      rcases hy with hy | hy
      · obtain ⟨a, h1, h2⟩ := trsF_mem (by omega) y hy; exact ⟨a, by omega, h2⟩
      · exact ⟨n, by omega, hy⟩
    · obtain ⟨a, h1, h2⟩ := trsF_mem (by omega) y hy; exact ⟨a, by omega, h2⟩
theorem rdF_mem {l : List Ev} {th : Int} {fr : Nat} : ∀ {n : Nat}, ∀ p ∈ rdF l th fr n, ∃ k, k < n ∧ (evAt l (fr + k)).kd = 2 ∧ p.1 = (evAt l (fr + k)).ad
  | 0, p, hp => by simp [rdF] at hp
  | n + 1, p, hp => by
    unfold rdF at hp
    split at hp
    · rename_i h
      rw [List.mem_append, List.mem_singleton] at hp
      rcases hp with hp | hp
      · obtain ⟨k, h1, h2⟩ := rdF_mem p hp; exact ⟨k, by omega, h2⟩
      · refine ⟨n, by omega, ?_, by rw [hp]⟩
        unfold rdK at h
        simp at h
        exact h.1.2
    · obtain ⟨k, h1, h2⟩ := rdF_mem p hp; exact ⟨k, by omega, h2⟩
theorem StsW.mono {B B' : Nat} {w : World} {ov : Value} {vs : List (Option Addr × Nat × Nat)} {L : List (List Int)} (h : StsW B w ov vs L) (hB : B' ≤ B) : StsW B' w ov vs L := ⟨h.sl, h.len, h.at_, fun q hq => Nat.le_trans hB (h.geo q hq), fun x hx q hq => Nat.le_trans hB (h.gev x hx q hq)⟩
theorem wpList_gON {ops : Array Oper} {rest : List Oper} {o : Oper} {a : Act} {Q : Exit → Act → World → Prop} (wr : World) (hgd : o.guard = none) (s x : Operand)
    (ho : o.op = .call { callee := .builtin .append, args := #[s, x], argTypes := #[25, 25] })
    (v : Value) (l : List (Sg × Int)) (y : Sg × Int) (n : Nat) (hn : l.length = n) (hs : a.eval s = v) (hl : Sl 40 10 encG wr v l) (hx : a.eval x = .slice (some ⟨wr.heap.size, 0, none⟩) 1 1) (hlen : (n + 1) * 80 ≤ 140737488355328)
    (h : ∀ A cap w', Sl 40 10 encG w' (.slice A (n + 1) cap) (l ++ [y]) → Fr (own v) wr (own (.slice A (n + 1) cap)) w' → wpList Try.prog ops Q rest (a.put o.dst (.slice A (n + 1) cap)) w') :
    wpList Try.prog ops Q (o :: rest) a (wr.alloc (.cells (encG y).toArray 40)) := by
  subst hn
  exact wpList_gO wr hgd s x ho v l y hs hl hx (by omega) hlen (fun A cap w' _ h1 h2 => h A cap w' h1 h2)
/-- What the walk of Sights holds in memory. -/
structure SiE (B : Nat) (w : World) (ovS : Value) (vs : List (Option Addr × Nat × Nat)) (L : List (List Int)) (vW : Value) (W : List Nat) (vT : Value) (T : List Tr) (rb ob : Nat) (vO : Value) (res : List (Sg × Int)) : Prop where
  st : StsW B w ovS vs L
  wi : Sl 3 1 encI w vW W
  tr : Sl 38 7 encT w vT T
  r : Blk w rb 28 #[.int .i64 0, .int .i64 0]
  o : Blk w ob 28 #[.int .i64 (-1), .int .i64 0]
  out : Sl 40 10 encG w vO res
  own : ∀ q, Proofs.Ytloiadhdkgkjkaa.own vO q → B ≤ q
section
variable {B : Nat} {w w' : World} {ovS : Value} {vs : List (Option Addr × Nat × Nat)} {L : List (List Int)} {vW : Value} {W : List Nat} {vT : Value} {T : List Tr} {rb ob : Nat} {vO vO' : Value} {res : List (Sg × Int)}
theorem SiE.below (h : SiE B w ovS vs L vW W vT T rb ob vO res) (hb : Below w.heap.size w w') : SiE B w' ovS vs L vW W vT T rb ob vO res :=
  ⟨h.st.below hb, h.wi.keep fun k hk => hb.block k (h.wi.lt k hk), h.tr.keep fun k hk => hb.block k (h.tr.lt k hk), h.r.below hb h.r.lt, h.o.below hb h.o.lt, h.out.keep fun k hk => hb.block k (h.out.lt k hk), h.own⟩
theorem SiE.snoc (h : SiE B w ovS vs L vW W vT T rb ob vO res) {x : Sg × Int} (hS : Sl 40 10 encG w' vO' (res ++ [x])) (hF : Fr (Proofs.Ytloiadhdkgkjkaa.own vO) w (Proofs.Ytloiadhdkgkjkaa.own vO') w') (hB : B ≤ w.heap.size) : SiE B w' ovS vs L vW W vT T rb ob vO' (res ++ [x]) where
  st := h.st.keep (fun q h1 h2 => hF.block q h2 fun ho => by obtain ⟨cs, hb⟩ := h.out.ofBlk ho; exact h.st.sl.ne_ hb (by decide) h1) (fun y hy q h1 h2 => hF.block q h2 fun ho => by
    obtain ⟨i, hi, rfl⟩ := List.getElem_of_mem hy
    obtain ⟨cs, hb⟩ := h.out.ofBlk ho
    exact Sl.ne_ (wl_sl (h.st.at_ i hi)) hb (by decide) h1)
  wi := h.wi.fr hF fun q h1 h2 => by obtain ⟨cs, hb⟩ := h.out.ofBlk h2; exact h.wi.ne_ hb (by decide) h1
  tr := h.tr.fr hF fun q h1 h2 => by obtain ⟨cs, hb⟩ := h.out.ofBlk h2; exact h.tr.ne_ hb (by decide) h1
  r := hF.blk h.r (h.out.ne_ h.r (by decide))
  o := hF.blk h.o (h.out.ne_ h.o (by decide))
  out := hS
  own := hF.ge h.own hB
end
end Go.Proofs.Ytloiadhdkgkjkaa
