/- stats: the document's list of products by contract. PRINTED by stats/mkpr.py. -/
import Derived.Lib.Hide
import Derived.Test.YteoebfjhadmnbaaPSt1
import Derived.Test.YteoebfjhadmnbaaPSt3
namespace Go.Proofs.Yteoebfjhadmnbaa
open Go.RowKit Ieee
set_option maxHeartbeats 4000000
set_option linter.unusedVariables false
set_option linter.unusedSimpArgs false
set_option maxRecDepth 100000 in
theorem rproducts_b {w : World} {Ax Ay : Option Addr} {cx cy : Nat} {x y : List Nat} {a b : Nat} (hx : LiesF w (.slice Ax x.length cx) x) (hy : LiesF w (.slice Ay y.length cy) y) (hxy : x.length = y.length) (hn : x.length * 8 ≤ 140737488355328) :
    Calls Try.prog 42 #[.slice Ax x.length cx, .slice Ay y.length cy, .float .f64 a, .float .f64 b] w fun e w' =>
      ∃ v o, e = .returned v ∧ Fl w' v o ∧ o.map cl = pProd (x.map cl) (y.map cl) (cl a) (cl b) ∧ (∀ z ∈ o, z < 18446744073709551616) ∧ Below w.heap.size w w' := by
  replace hx := Lib.hid hx
  replace hy := Lib.hid hy
  have hni : (x.length : Int) ≤ 9223372036854775807 := by omega
  replace hn := Lib.hid hn
  replace hxy := Lib.hid hxy
  go_enter Try.func42, Try.ntmps42
  go_wp2_with fail
  go_loopg [9, 10] x.length (fun gk c9 c10 wr => ∃ (j : Nat) (A : Option Addr) (cp : Nat) (o : List Nat), gk + j = x.length ∧ c9 = .slice A o.length cp ∧ c10 = .int .i64 (j : Int) ∧ Hid (o.length = j) ∧ Hid (Fl wr (.slice A o.length cp) o) ∧ Hid (o.map cl = pProd ((x.take j).map cl) ((y.take j).map cl) (cl a) (cl b)) ∧ Hid (∀ z ∈ o, z < 18446744073709551616) ∧ Hid (Below w.heap.size w wr) ∧ Hid (∀ k, own (.slice A o.length cp) k → w.heap.size ≤ k))
  case atStart => exact ⟨0, none, 0, [], rfl, rfl, rfl, Lib.hid rfl, Lib.hid (Sl.nil _), Lib.hid rfl, Lib.hid (fun z hz => nomatch hz), Lib.hid (Below.refl _ _), Lib.hid (fun k hk => nomatch hk)⟩
  case round =>
    obtain ⟨j, A, cp, o, hgk, rfl, rfl, HO, HV, HP, HB, HW, HU⟩ := hrel
    have HG := Lib.hid hgk
    clear hgk
    by_cases hj : j < x.length
    · obtain ⟨g, rfl⟩ : ∃ g, gk = g + 1 := ⟨gk - 1, by have := HG.out; omega⟩
      obtain ⟨A2, c2, ev, _, _, hbx, hcs⟩ := hx.out.below HW.out
      rw [Value.slice.injEq] at ev
      obtain ⟨rfl, -, rfl⟩ := ev
      obtain ⟨gz, oz, rfl, hcl⟩ := hcs j hj
      have hjy : j < y.length := by have := hxy.out; omega
      obtain ⟨A3, c3, ev, _, _, hby, hcs3⟩ := hy.out.below HW.out
      rw [Value.slice.injEq] at ev
      obtain ⟨rfl, -, rfl⟩ := ev
      obtain ⟨gy, oy, rfl, hcl3⟩ := hcs3 j hjy
      have hji : (j : Int) < x.length := by omega
      have hjyi : (j : Int) < y.length := by omega
      have HN := Lib.hid (pProd_one (a := cl a) (b := cl b) hj hjy)
      clear hcs hcs3 hbx hby
      generalize x.getD j 0 = xv at *
      generalize y.getD j 0 = yv at *
      go_upto_region 5 with (fail)
      refine wp_region_mix2 (fun W' => W'.cell? ⟨gz, oz + j, none⟩ = some (.float .f64 xv) ∧ W'.cell? ⟨gy, oy + j, none⟩ = some (.float .f64 yv)) [3, 3, 3, 3, 0, 3, 2, 3, 3, 3, 0, 3, 2, 2, 2, 2, 3] [0, 1, 2, 3, 4, 5, 7, 8, 9, 10, 11] 6 12 [12, 13, 14, 15, 16] [6, 13, 14, 15, 16] (by kernel_rfl) (by kernel_rfl) (fun _ _ h => h) ⟨hcl, hcl3⟩ ?_
      (repeat (first | ((first | refine wpMixE_pure rfl rfl (fun K hK => ?_) | refine wpMixE_any rfl rfl (fun K hK => ?_)); go_simp; refine hK _ _ ?_; clear hK K) | (refine wpMixE_any rfl rfl (fun K hK => ?_); rw [if_pos (by go_simp)]; apply Exists.intro; refine And.intro (fun w2 hS2 => ?_) (hK _ _ ?_); (focus (obtain ⟨hs1, hs2⟩ := hS2; go_simp; rfl)); clear hK K)))
      refine wpMixE_nil ⟨wpMix_loud rfl rfl (fun n1 K hK => ?_), wpMix_loud rfl rfl (fun n1 K hK => ?_)⟩
      · go_wp2_with fail
        have hp1 := Lib.hid (cl_fres .sub xv a (wr.drewN (1 + n1)))
        have hlp1 := Lib.hid (fres_lt .sub xv a (wr.drewN (1 + n1)))
        generalize fres BinOp.sub xv a (wr.drewN (1 + n1)) = p1 at *
        generalize fdr BinOp.sub xv a = d1 at *
        refine hK _ _ (fun _ => ⟨hcl, hcl3⟩) ?_; clear hK K
        refine wpMix_loud rfl rfl (fun n2 K hK => ?_)
        go_wp2_with fail
        have hp2 := Lib.hid (cl_fres .sub yv b (wr.drewN (1 + n1 + d1 + n2)))
        have hlp2 := Lib.hid (fres_lt .sub yv b (wr.drewN (1 + n1 + d1 + n2)))
        generalize fres BinOp.sub yv b (wr.drewN (1 + n1 + d1 + n2)) = p2 at *
        generalize fdr BinOp.sub yv b = d2 at *
        refine hK _ _ (fun _ => ⟨hcl, hcl3⟩) ?_; clear hK K
        refine wpMix_loud rfl rfl (fun n3 K hK => ?_)
        go_wp2_with fail
        have hp3 := Lib.hid (cl_fres .mul p1 p2 (wr.drewN (1 + n1 + d1 + n2 + d2 + n3)))
        have hlp3 := Lib.hid (fres_lt .mul p1 p2 (wr.drewN (1 + n1 + d1 + n2 + d2 + n3)))
        generalize fres BinOp.mul p1 p2 (wr.drewN (1 + n1 + d1 + n2 + d2 + n3)) = p3 at *
        generalize fdr BinOp.mul p1 p2 = d3 at *
        refine hK _ _ (fun _ => ⟨hcl, hcl3⟩) ?_; clear hK K
        have hp4 : Hid (cl p3 = pPr (cl a) (cl b) (cl xv) (cl yv)) := Lib.hid (by rw [hp3.out, hp1.out, hp2.out]; rfl)
        refine wpMix_loud rfl rfl (fun n4 K hK => ?_)
        rw [show ∀ A B, (wr.drewN A).drewN B = wr.drewN (A + B) from fun A B => drewN_drewN wr A B]
        have HV4 : Hid (Fl (wr.drewN (1 + n1 + d1 + n2 + d2 + n3 + d3 + n4)) (.slice A o.length cp) o) := Lib.hid (HV.out.drewN _)
        have HW4 := Lib.hid (below_drewNs HW.out (1 + n1 + d1 + n2 + d2 + n3 + d3 + n4))
        generalize wr.drewN (1 + n1 + d1 + n2 + d2 + n3 + d3 + n4) = wz at *
        go_wp2_with fail
        refine hK _ _ (fun h => (Bool.false_ne_true ((Eq.symm (by kernel_rfl)).trans h)).elim) ?_; clear hK K
        refine wpMix_loud rfl rfl (fun n5 K hK => ?_)
        refine wpList_one (e := 36) (sz := 1) encFl_len encFl_one (wz.drewN n5) rfl (.tmp 17) (.tmp 31) 48 rfl Try.underlying48 f64_info rfl (by decide) (.slice A o.length cp) o p3 rfl (HV4.out.drewN n5) rfl (by have := HO.out; have := hn.out; omega) (by have := HO.out; have := hn.out; omega) ?_
        intro A5 c5 w5 hc5 hv5 hf5
        have HV5 : Hid (Fl w5 (.slice A5 (o ++ [p3]).length c5) (o ++ [p3])) := Lib.hid (by rw [List.length_append]; exact hv5)
        have HW5 : Hid (Below w.heap.size w w5) := Lib.hid ((below_drewNs HW4.out n5).trans (hf5.below HU.out (below_drewNs HW4.out n5).size))
        have HU5 : Hid (∀ k, own (.slice A5 (o ++ [p3]).length c5) k → w.heap.size ≤ k) := Lib.hid (by rw [List.length_append]; exact hf5.ge HU.out (below_drewNs HW4.out n5).size)
        rw [show o.length + 1 = (o ++ [p3]).length by rw [List.length_append]; rfl]
        clear hv5 hf5
        go_wp2_with fail
        refine hK _ _ (fun h => (Bool.false_ne_true ((Eq.symm (by kernel_rfl)).trans h)).elim) ?_; clear hK K
        ((first | refine wpMix_pure rfl rfl (fun K hK => ?_) | refine wpMix_loc rfl rfl (fun K hK => ?_) | refine wpMix_any rfl rfl (fun K hK => ?_)); go_simp; refine hK _ _ ?_; clear hK K)
        refine wpMix_nil (fun n6 => ?_)
        go_wp2
        go_roundg g
        case measure => omega
        case rel =>
          refine ⟨j + 1, A5, c5, o ++ [p3], ?_, by rw [List.length_append]; rfl, by go_num, Lib.hid (by rw [List.length_append, HO.out]; rfl), Lib.hid (HV5.out.drewN _), Lib.hid ?_, Lib.hid fun z hz => ?_, Lib.hid (below_drewNs HW5.out _), HU5⟩
          · have := HG.out; omega
          · rw [HN.out, ← HP.out, ← hp4.out, List.map_append]; rfl
          · rcases List.mem_append.1 hz with h | h
            · exact HB.out z h
            · obtain rfl : z = p3 := by simpa using h
              exact hlp3.out
      · go_wp2_with fail
        have hp1 := Lib.hid (cl_fres .sub yv b (wr.drewN (1 + n1)))
        have hlp1 := Lib.hid (fres_lt .sub yv b (wr.drewN (1 + n1)))
        generalize fres BinOp.sub yv b (wr.drewN (1 + n1)) = p1 at *
        generalize fdr BinOp.sub yv b = d1 at *
        refine hK _ _ (fun _ => ⟨hcl, hcl3⟩) ?_; clear hK K
        refine wpMix_loud rfl rfl (fun n2 K hK => ?_)
        go_wp2_with fail
        have hp2 := Lib.hid (cl_fres .sub xv a (wr.drewN (1 + n1 + d1 + n2)))
        have hlp2 := Lib.hid (fres_lt .sub xv a (wr.drewN (1 + n1 + d1 + n2)))
        generalize fres BinOp.sub xv a (wr.drewN (1 + n1 + d1 + n2)) = p2 at *
        generalize fdr BinOp.sub xv a = d2 at *
        refine hK _ _ (fun _ => ⟨hcl, hcl3⟩) ?_; clear hK K
        refine wpMix_loud rfl rfl (fun n3 K hK => ?_)
        go_wp2_with fail
        have hp3 := Lib.hid (cl_fres .mul p2 p1 (wr.drewN (1 + n1 + d1 + n2 + d2 + n3)))
        have hlp3 := Lib.hid (fres_lt .mul p2 p1 (wr.drewN (1 + n1 + d1 + n2 + d2 + n3)))
        generalize fres BinOp.mul p2 p1 (wr.drewN (1 + n1 + d1 + n2 + d2 + n3)) = p3 at *
        generalize fdr BinOp.mul p2 p1 = d3 at *
        refine hK _ _ (fun _ => ⟨hcl, hcl3⟩) ?_; clear hK K
        have hp4 : Hid (cl p3 = pPr (cl a) (cl b) (cl xv) (cl yv)) := Lib.hid (by rw [hp3.out, hp1.out, hp2.out]; rfl)
        refine wpMix_loud rfl rfl (fun n4 K hK => ?_)
        rw [show ∀ A B, (wr.drewN A).drewN B = wr.drewN (A + B) from fun A B => drewN_drewN wr A B]
        have HV4 : Hid (Fl (wr.drewN (1 + n1 + d1 + n2 + d2 + n3 + d3 + n4)) (.slice A o.length cp) o) := Lib.hid (HV.out.drewN _)
        have HW4 := Lib.hid (below_drewNs HW.out (1 + n1 + d1 + n2 + d2 + n3 + d3 + n4))
        generalize wr.drewN (1 + n1 + d1 + n2 + d2 + n3 + d3 + n4) = wz at *
        go_wp2_with fail
        refine hK _ _ (fun h => (Bool.false_ne_true ((Eq.symm (by kernel_rfl)).trans h)).elim) ?_; clear hK K
        refine wpMix_loud rfl rfl (fun n5 K hK => ?_)
        refine wpList_one (e := 36) (sz := 1) encFl_len encFl_one (wz.drewN n5) rfl (.tmp 17) (.tmp 31) 48 rfl Try.underlying48 f64_info rfl (by decide) (.slice A o.length cp) o p3 rfl (HV4.out.drewN n5) rfl (by have := HO.out; have := hn.out; omega) (by have := HO.out; have := hn.out; omega) ?_
        intro A5 c5 w5 hc5 hv5 hf5
        have HV5 : Hid (Fl w5 (.slice A5 (o ++ [p3]).length c5) (o ++ [p3])) := Lib.hid (by rw [List.length_append]; exact hv5)
        have HW5 : Hid (Below w.heap.size w w5) := Lib.hid ((below_drewNs HW4.out n5).trans (hf5.below HU.out (below_drewNs HW4.out n5).size))
        have HU5 : Hid (∀ k, own (.slice A5 (o ++ [p3]).length c5) k → w.heap.size ≤ k) := Lib.hid (by rw [List.length_append]; exact hf5.ge HU.out (below_drewNs HW4.out n5).size)
        rw [show o.length + 1 = (o ++ [p3]).length by rw [List.length_append]; rfl]
        clear hv5 hf5
        go_wp2_with fail
        refine hK _ _ (fun h => (Bool.false_ne_true ((Eq.symm (by kernel_rfl)).trans h)).elim) ?_; clear hK K
        ((first | refine wpMix_pure rfl rfl (fun K hK => ?_) | refine wpMix_loc rfl rfl (fun K hK => ?_) | refine wpMix_any rfl rfl (fun K hK => ?_)); go_simp; refine hK _ _ ?_; clear hK K)
        refine wpMix_nil (fun n6 => ?_)
        go_wp2
        go_roundg g
        case measure => omega
        case rel =>
          refine ⟨j + 1, A5, c5, o ++ [p3], ?_, by rw [List.length_append]; rfl, by go_num, Lib.hid (by rw [List.length_append, HO.out]; rfl), Lib.hid (HV5.out.drewN _), Lib.hid ?_, Lib.hid fun z hz => ?_, Lib.hid (below_drewNs HW5.out _), HU5⟩
          · have := HG.out; omega
          · rw [HN.out, ← HP.out, ← hp4.out, List.map_append]; rfl
          · rcases List.mem_append.1 hz with h | h
            · exact HB.out z h
            · obtain rfl : z = p3 := by simpa using h
              exact hlp3.out
    · obtain rfl : j = x.length := by have := HG.out; omega
      have e1 := HP.out
      rw [List.take_of_length_le (Nat.le_refl _), List.take_of_length_le (by rw [hxy.out]; omega)] at e1
      have HP2 := Lib.hid e1
      clear e1 hj
      go_wp2
      go_ret
      exact ⟨_, o, rfl, HV.out, HP2.out, HB.out, HW.out⟩
end Go.Proofs.Yteoebfjhadmnbaa
/- stats: the line through points by contract (the program's and the document's). PRINTED by stats/mkfit.py. -/
namespace Go.Proofs.Yteoebfjhadmnbaa
open Go.RowKit Ieee
set_option maxHeartbeats 4000000
set_option linter.unusedVariables false
set_option linter.unusedSimpArgs false
def cNe0 (v : Option Nat) : Bool := !cEq v (some 0)
def pLine (a b u v w : Option Nat) : Option Nat × Option Nat × Option Nat × Int :=
  (if cNe0 v then fop .quo u v else some 0, if cNe0 v then fop .sub b (fop .mul (fop .quo u v) a) else b, if cNe0 (fop .mul v w) then fop .quo (fop .mul u u) (fop .mul v w) else some 0, 0)
def pFit (x y : List (Option Nat)) : Option Nat × Option Nat × Option Nat × Int :=
  if x.length = y.length ∧ x.length ≠ 0 then pLine (pMean x) (pMean y) (pSum (pProd x y (pMean x) (pMean y))) (pSum (pProd x x (pMean x) (pMean x))) (pSum (pProd y y (pMean y) (pMean y))) else (some 0, some 0, some 0, 2)
theorem prod_len {o x y : List Nat} {a b : Option Nat} (h : o.map cl = pProd (x.map cl) (y.map cl) a b) : o.length ≤ x.length := by
  have := congrArg List.length h
  simp [pProd] at this
  omega
set_option maxRecDepth 100000 in
theorem fit_b {w : World} {Ax Ay : Option Addr} {cx cy : Nat} {x y : List Nat} (hx : LiesF w (.slice Ax x.length cx) x) (hy : LiesF w (.slice Ay y.length cy) y) (hn : x.length * 8 ≤ 140737488355328) (hn2 : y.length * 8 ≤ 140737488355328) :
    Calls Try.prog 20 #[.slice Ax x.length cx, .slice Ay y.length cy] w fun e w' =>
      ∃ s1 s2 s3 : Nat, ∃ er : Int, e = .returned (.tuple #[.agg #[.float .f64 s1, .float .f64 s2, .float .f64 s3], .int .i64 er]) ∧ (cl s1, cl s2, cl s3, er) = pFit (x.map cl) (y.map cl) ∧ Below w.heap.size w w' := by
  have B0 := Lib.hid (Blk.new w 51 #[.float .f64 0, .float .f64 0, .float .f64 0])
  have W0 := Lib.hid ((Below.refl w.heap.size w).alloc (Nat.le_refl _) (.cells #[.float .f64 0, .float .f64 0, .float .f64 0] 51))
  have HX := Lib.hid (fun (w' : World) (hb : Below w.heap.size w w') => hx.below hb)
  have HY := Lib.hid (fun (w' : World) (hb : Below w.heap.size w w') => hy.below hb)
  have hni : (x.length : Int) ≤ 9223372036854775807 := by omega
  have hni2 : (y.length : Int) ≤ 9223372036854775807 := by omega
  replace hn := Lib.hid hn
  replace hn2 := Lib.hid hn2
  clear hx hy
  by_cases hxy : x.length = y.length ∧ x.length ≠ 0
  · have HR := Lib.hid (show pFit (x.map cl) (y.map cl) = pLine (pMean (x.map cl)) (pMean (y.map cl)) (pSum (pProd (x.map cl) (y.map cl) (pMean (x.map cl)) (pMean (y.map cl)))) (pSum (pProd (x.map cl) (x.map cl) (pMean (x.map cl)) (pMean (x.map cl)))) (pSum (pProd (y.map cl) (y.map cl) (pMean (y.map cl)) (pMean (y.map cl)))) by unfold pFit; rw [if_pos (by simpa using hxy)])
    obtain ⟨hxy, h0⟩ := hxy
    have e1 : ((x.length : Int) != y.length) = false := by simp [hxy]
    have e3 : ¬ (x.length : Int) = 0 := by omega
    have HXY := Lib.hid hxy
    clear hxy h0
    go_enter Try.func20, Try.ntmps20
    go_wp2_with fail
    refine (mean_b (HX.out _ W0.out) (by have := hn.out; omega)).mono ?_
    rintro _ _ ⟨a, n1, rfl, ha, hla, rfl⟩
    have W1 := Lib.hid (below_drewNs W0.out n1)
    have B1 := Lib.hid (B0.out.drewN n1)
    clear W0 B0
    generalize (w.alloc (.cells #[.float .f64 0, .float .f64 0, .float .f64 0] 51)).drewN n1 = w1 at *
    go_wp2_with fail
    refine (mean_b (HY.out _ W1.out) (by have := hn2.out; omega)).mono ?_
    rintro _ _ ⟨b, n2, rfl, hb, hlb, rfl⟩
    have W2 := Lib.hid (below_drewNs W1.out n2)
    have B2 := Lib.hid (B1.out.drewN n2)
    clear W1 B1
    generalize w1.drewN n2 = w2 at *
    replace ha := Lib.hid ha
    replace hb := Lib.hid hb
    go_wp2_with fail
    refine (products_b (a := a) (b := b) (HX.out _ W2.out) (HY.out _ W2.out) HXY.out hn.out).mono ?_
    rintro _ w3 ⟨vu, ou, rfl, hfu, hcu, hbu, belu⟩
    have W3 := Lib.hid (W2.out.trans (belu.mono W2.out.size))
    have B3 := Lib.hid (B2.out.below belu B2.out.lt)
    obtain ⟨Au, cu, rfl, -⟩ := hfu.shape
    have HLu := Lib.hid (hfu.lies hbu)
    have HNu := Lib.hid (prod_len hcu)
    replace hcu := Lib.hid hcu
    clear W2 B2 hfu hbu belu
    go_wp2_with fail
    refine (sum_b HLu.out (by have := HNu.out; have := hn.out; omega)).mono ?_
    rintro _ _ ⟨u, nu, rfl, hu, hlu, rfl⟩
    rw [hcu.out] at hu
    replace hu := Lib.hid hu
    have W4 := Lib.hid (below_drewNs W3.out nu)
    have B4 := Lib.hid (B3.out.drewN nu)
    clear W3 B3 HLu HNu hcu
    generalize w3.drewN nu = w4 at *
    go_wp2_with fail
    refine (products_b (a := a) (b := a) (HX.out _ W4.out) (HX.out _ W4.out) rfl hn.out).mono ?_
    rintro _ w5 ⟨vv, ov, rfl, hfv, hcv, hbv, belv⟩
    have W5 := Lib.hid (W4.out.trans (belv.mono W4.out.size))
    have B5 := Lib.hid (B4.out.below belv B4.out.lt)
    obtain ⟨Av, cv, rfl, -⟩ := hfv.shape
    have HLv := Lib.hid (hfv.lies hbv)
    have HNv := Lib.hid (prod_len hcv)
    replace hcv := Lib.hid hcv
    clear W4 B4 hfv hbv belv
    go_wp2_with fail
    refine (sum_b HLv.out (by have := HNv.out; have := hn.out; omega)).mono ?_
    rintro _ _ ⟨v, nv, rfl, hv, hlv, rfl⟩
    rw [hcv.out] at hv
    replace hv := Lib.hid hv
    have W6 := Lib.hid (below_drewNs W5.out nv)
    have B6 := Lib.hid (B5.out.drewN nv)
    clear W5 B5 HLv HNv hcv
    generalize w5.drewN nv = w6 at *
    go_wp2_with fail
    refine (products_b (a := b) (b := b) (HY.out _ W6.out) (HY.out _ W6.out) rfl hn2.out).mono ?_
    rintro _ w7 ⟨vt, ot, rfl, hft, hct, hbt, belt⟩
    have W7 := Lib.hid (W6.out.trans (belt.mono W6.out.size))
    have B7 := Lib.hid (B6.out.below belt B6.out.lt)
    obtain ⟨At, ct, rfl, -⟩ := hft.shape
    have HLt := Lib.hid (hft.lies hbt)
    have HNt := Lib.hid (prod_len hct)
    replace hct := Lib.hid hct
    clear W6 B6 hft hbt belt
    go_wp2_with fail
    refine (sum_b HLt.out (by have := HNt.out; have := hn2.out; omega)).mono ?_
    rintro _ _ ⟨t, nt, rfl, ht, hlt, rfl⟩
    rw [hct.out] at ht
    replace ht := Lib.hid ht
    have W8 := Lib.hid (below_drewNs W7.out nt)
    have B8 := Lib.hid (B7.out.drewN nt)
    clear W7 B7 HLt HNt hct
    generalize w7.drewN nt = w8 at *
    have hR : pFit (x.map cl) (y.map cl) = pLine (cl a) (cl b) (cl u) (cl v) (cl t) := by rw [HR.out, hu.out, hv.out, ht.out, ha.out, hb.out]
    replace hR := Lib.hid hR
    clear HX HY HR ha hb hu hv ht HXY e1 e3
    have b0 := B8.out.cell 0
    have b1 := B8.out.cell 1
    have b2 := B8.out.cell 2
    have f0 := B8.out.frozen 0
    have f1 := B8.out.frozen 1
    have f2 := B8.out.frozen 2
    simp only [List.getElem?_toArray, List.getElem?_cons_zero, List.getElem?_cons_succ] at b0 b1 b2
    have hlt := B8.out.lt
    go_wp2
    all_goals (refine bodyPost_ret (by simp [results, Try.f20, go_sem, b0, b1, b2, f0, f1, f2, hlt]; try rfl) rfl ?_)
    all_goals rename_i h1 h2
    all_goals rw [fEq_cl, show cl 0 = some 0 by decide] at h1
    all_goals rw [fEq_cl, cl_fres, show cl 0 = some 0 by decide] at h2
    all_goals refine ⟨_, _, _, _, rfl, ?_, ?_⟩
    all_goals first
      | (rw [hR.out]; unfold pLine cNe0; simp only [cl_fres, h1, h2, if_true, if_false, Bool.false_eq_true, show cl 0 = some 0 by decide]; done)
      | (repeat (first | with_reducible exact W8.out | (with_reducible refine below_drewNs ?_ _) | (with_reducible refine Below.setCell ?_ ?_ _; rotate_left; focus (first | (with_reducible exact Nat.le_refl _) | (have := W8.out.size; simp only; omega))) | (with_reducible refine Below.alloc ?_ ?_ _; rotate_left; focus (first | (with_reducible exact W8.out.size) | (have := W8.out.size; simp; omega)))))
  · have HR := Lib.hid (show pFit (x.map cl) (y.map cl) = (some 0, some 0, some 0, 2) by unfold pFit; rw [if_neg (by simpa using hxy)])
    have b0 := B0.out.cell 0
    have b1 := B0.out.cell 1
    have b2 := B0.out.cell 2
    have f0 := B0.out.frozen 0
    have f1 := B0.out.frozen 1
    have f2 := B0.out.frozen 2
    simp only [List.getElem?_toArray, List.getElem?_cons_zero, List.getElem?_cons_succ] at b0 b1 b2
    by_cases h1 : x.length = y.length
    · have e4 : (y.length : Int) = 0 := by omega
      have e3 : (x.length : Int) = 0 := by omega
      clear hxy h1
      go_enter Try.func20, Try.ntmps20
      go_wp2
      refine bodyPost_ret (by simp [results, Try.f20, go_sem, b0, b1, b2, f0, f1, f2]; try rfl) rfl ?_
      refine ⟨0, 0, 0, 2, rfl, HR.out.symm, ?_⟩
      (repeat (first | with_reducible exact W0.out | (with_reducible refine below_drewNs ?_ _) | (with_reducible refine Below.setCell ?_ (Nat.le_refl _) _)))
    · have e1 : ((x.length : Int) != y.length) = true := by simp; omega
      clear hxy h1
      go_enter Try.func20, Try.ntmps20
      go_wp2
      refine bodyPost_ret (by simp [results, Try.f20, go_sem, b0, b1, b2, f0, f1, f2]; try rfl) rfl ?_
      refine ⟨0, 0, 0, 2, rfl, HR.out.symm, ?_⟩
      (repeat (first | with_reducible exact W0.out | (with_reducible refine below_drewNs ?_ _) | (with_reducible refine Below.setCell ?_ (Nat.le_refl _) _)))
set_option maxRecDepth 100000 in
theorem rfit_b {w : World} {Ax Ay : Option Addr} {cx cy : Nat} {x y : List Nat} (hx : LiesF w (.slice Ax x.length cx) x) (hy : LiesF w (.slice Ay y.length cy) y) (hn : x.length * 8 ≤ 140737488355328) (hn2 : y.length * 8 ≤ 140737488355328) :
    Calls Try.prog 21 #[.slice Ax x.length cx, .slice Ay y.length cy] w fun e w' =>
      ∃ s1 s2 s3 : Nat, ∃ er : Int, e = .returned (.tuple #[.agg #[.float .f64 s1, .float .f64 s2, .float .f64 s3], .int .i64 er]) ∧ (cl s1, cl s2, cl s3, er) = pFit (x.map cl) (y.map cl) ∧ Below w.heap.size w w' := by
  have B0 := Lib.hid (Blk.new w 51 #[.float .f64 0, .float .f64 0, .float .f64 0])
  have W0 := Lib.hid ((Below.refl w.heap.size w).alloc (Nat.le_refl _) (.cells #[.float .f64 0, .float .f64 0, .float .f64 0] 51))
  have HX := Lib.hid (fun (w' : World) (hb : Below w.heap.size w w') => hx.below hb)
  have HY := Lib.hid (fun (w' : World) (hb : Below w.heap.size w w') => hy.below hb)
  have hni : (x.length : Int) ≤ 9223372036854775807 := by omega
  have hni2 : (y.length : Int) ≤ 9223372036854775807 := by omega
  replace hn := Lib.hid hn
  replace hn2 := Lib.hid hn2
  clear hx hy
  by_cases hxy : x.length = y.length ∧ x.length ≠ 0
  · have HR := Lib.hid (show pFit (x.map cl) (y.map cl) = pLine (pMean (x.map cl)) (pMean (y.map cl)) (pSum (pProd (x.map cl) (y.map cl) (pMean (x.map cl)) (pMean (y.map cl)))) (pSum (pProd (x.map cl) (x.map cl) (pMean (x.map cl)) (pMean (x.map cl)))) (pSum (pProd (y.map cl) (y.map cl) (pMean (y.map cl)) (pMean (y.map cl)))) by unfold pFit; rw [if_pos (by simpa using hxy)])
    obtain ⟨hxy, h0⟩ := hxy
    have e1 : ((x.length : Int) != y.length) = false := by simp [hxy]
    have e3 : ¬ (x.length : Int) = 0 := by omega
    have HXY := Lib.hid hxy
    clear hxy h0
    go_enter Try.func21, Try.ntmps21
    go_wp2_with fail
    refine (rmean_b (HX.out _ W0.out) (by have := hn.out; omega)).mono ?_
    rintro _ _ ⟨a, n1, rfl, ha, hla, rfl⟩
    have W1 := Lib.hid (below_drewNs W0.out n1)
    have B1 := Lib.hid (B0.out.drewN n1)
    clear W0 B0
    generalize (w.alloc (.cells #[.float .f64 0, .float .f64 0, .float .f64 0] 51)).drewN n1 = w1 at *
    go_wp2_with fail
    refine (rmean_b (HY.out _ W1.out) (by have := hn2.out; omega)).mono ?_
    rintro _ _ ⟨b, n2, rfl, hb, hlb, rfl⟩
    have W2 := Lib.hid (below_drewNs W1.out n2)
    have B2 := Lib.hid (B1.out.drewN n2)
    clear W1 B1
    generalize w1.drewN n2 = w2 at *
    replace ha := Lib.hid ha
    replace hb := Lib.hid hb
    go_wp2_with fail
    refine (rproducts_b (a := a) (b := b) (HX.out _ W2.out) (HY.out _ W2.out) HXY.out hn.out).mono ?_
    rintro _ w3 ⟨vu, ou, rfl, hfu, hcu, hbu, belu⟩
    have W3 := Lib.hid (W2.out.trans (belu.mono W2.out.size))
    have B3 := Lib.hid (B2.out.below belu B2.out.lt)
    obtain ⟨Au, cu, rfl, -⟩ := hfu.shape
    have HLu := Lib.hid (hfu.lies hbu)
    have HNu := Lib.hid (prod_len hcu)
    replace hcu := Lib.hid hcu
    clear W2 B2 hfu hbu belu
    go_wp2_with fail
    refine (rsum_b HLu.out (by have := HNu.out; have := hn.out; omega)).mono ?_
    rintro _ _ ⟨u, nu, rfl, hu, hlu, rfl⟩
    rw [hcu.out] at hu
    replace hu := Lib.hid hu
    have W4 := Lib.hid (below_drewNs W3.out nu)
    have B4 := Lib.hid (B3.out.drewN nu)
    clear W3 B3 HLu HNu hcu
    generalize w3.drewN nu = w4 at *
    go_wp2_with fail
    refine (rproducts_b (a := a) (b := a) (HX.out _ W4.out) (HX.out _ W4.out) rfl hn.out).mono ?_
    rintro _ w5 ⟨vv, ov, rfl, hfv, hcv, hbv, belv⟩
    have W5 := Lib.hid (W4.out.trans (belv.mono W4.out.size))
    have B5 := Lib.hid (B4.out.below belv B4.out.lt)
    obtain ⟨Av, cv, rfl, -⟩ := hfv.shape
    have HLv := Lib.hid (hfv.lies hbv)
    have HNv := Lib.hid (prod_len hcv)
    replace hcv := Lib.hid hcv
    clear W4 B4 hfv hbv belv
    go_wp2_with fail
    refine (rsum_b HLv.out (by have := HNv.out; have := hn.out; omega)).mono ?_
    rintro _ _ ⟨v, nv, rfl, hv, hlv, rfl⟩
    rw [hcv.out] at hv
    replace hv := Lib.hid hv
    have W6 := Lib.hid (below_drewNs W5.out nv)
    have B6 := Lib.hid (B5.out.drewN nv)
    clear W5 B5 HLv HNv hcv
    generalize w5.drewN nv = w6 at *
    go_wp2_with fail
    refine (rproducts_b (a := b) (b := b) (HY.out _ W6.out) (HY.out _ W6.out) rfl hn2.out).mono ?_
    rintro _ w7 ⟨vt, ot, rfl, hft, hct, hbt, belt⟩
    have W7 := Lib.hid (W6.out.trans (belt.mono W6.out.size))
    have B7 := Lib.hid (B6.out.below belt B6.out.lt)
    obtain ⟨At, ct, rfl, -⟩ := hft.shape
    have HLt := Lib.hid (hft.lies hbt)
    have HNt := Lib.hid (prod_len hct)
    replace hct := Lib.hid hct
    clear W6 B6 hft hbt belt
    go_wp2_with fail
    refine (rsum_b HLt.out (by have := HNt.out; have := hn2.out; omega)).mono ?_
    rintro _ _ ⟨t, nt, rfl, ht, hlt, rfl⟩
    rw [hct.out] at ht
    replace ht := Lib.hid ht
    have W8 := Lib.hid (below_drewNs W7.out nt)
    have B8 := Lib.hid (B7.out.drewN nt)
    clear W7 B7 HLt HNt hct
    generalize w7.drewN nt = w8 at *
    have hR : pFit (x.map cl) (y.map cl) = pLine (cl a) (cl b) (cl u) (cl v) (cl t) := by rw [HR.out, hu.out, hv.out, ht.out, ha.out, hb.out]
    replace hR := Lib.hid hR
    clear HX HY HR ha hb hu hv ht HXY e1 e3
    have b0 := B8.out.cell 0
    have b1 := B8.out.cell 1
    have b2 := B8.out.cell 2
    have f0 := B8.out.frozen 0
    have f1 := B8.out.frozen 1
    have f2 := B8.out.frozen 2
    simp only [List.getElem?_toArray, List.getElem?_cons_zero, List.getElem?_cons_succ] at b0 b1 b2
    have hlt := B8.out.lt
    go_wp2
    all_goals (refine bodyPost_ret (by simp [results, Try.f21, go_sem, b0, b1, b2, f0, f1, f2, hlt]; try rfl) rfl ?_)
    all_goals rename_i h1 h2
    all_goals rw [fEq_cl, show cl 0 = some 0 by decide] at h1
    all_goals rw [fEq_cl, cl_fres, show cl 0 = some 0 by decide] at h2
    all_goals refine ⟨_, _, _, _, rfl, ?_, ?_⟩
    all_goals first
      | (rw [hR.out]; unfold pLine cNe0; simp only [cl_fres, h1, h2, if_true, if_false, Bool.false_eq_true, show cl 0 = some 0 by decide]; done)
      | (repeat (first | with_reducible exact W8.out | (with_reducible refine below_drewNs ?_ _) | (with_reducible refine Below.setCell ?_ ?_ _; rotate_left; focus (first | (with_reducible exact Nat.le_refl _) | (have := W8.out.size; simp only; omega))) | (with_reducible refine Below.alloc ?_ ?_ _; rotate_left; focus (first | (with_reducible exact W8.out.size) | (have := W8.out.size; simp; omega)))))
  · have HR := Lib.hid (show pFit (x.map cl) (y.map cl) = (some 0, some 0, some 0, 2) by unfold pFit; rw [if_neg (by simpa using hxy)])
    have b0 := B0.out.cell 0
    have b1 := B0.out.cell 1
    have b2 := B0.out.cell 2
    have f0 := B0.out.frozen 0
    have f1 := B0.out.frozen 1
    have f2 := B0.out.frozen 2
    simp only [List.getElem?_toArray, List.getElem?_cons_zero, List.getElem?_cons_succ] at b0 b1 b2
    by_cases h1 : x.length = y.length
    · have e4 : (y.length : Int) = 0 := by omega
      have e3 : (x.length : Int) = 0 := by omega
      clear hxy h1
      go_enter Try.func21, Try.ntmps21
      go_wp2
      refine bodyPost_ret (by simp [results, Try.f21, go_sem, b0, b1, b2, f0, f1, f2]; try rfl) rfl ?_
      refine ⟨0, 0, 0, 2, rfl, HR.out.symm, ?_⟩
      (repeat (first | with_reducible exact W0.out | (with_reducible refine below_drewNs ?_ _) | (with_reducible refine Below.setCell ?_ (Nat.le_refl _) _)))
    · have e1 : ((x.length : Int) != y.length) = true := by simp; omega
      clear hxy h1
      go_enter Try.func21, Try.ntmps21
      go_wp2
      refine bodyPost_ret (by simp [results, Try.f21, go_sem, b0, b1, b2, f0, f1, f2]; try rfl) rfl ?_
      refine ⟨0, 0, 0, 2, rfl, HR.out.symm, ?_⟩
      (repeat (first | with_reducible exact W0.out | (with_reducible refine below_drewNs ?_ _) | (with_reducible refine Below.setCell ?_ (Nat.le_refl _) _)))
end Go.Proofs.Yteoebfjhadmnbaa
/- the statements' helpers over floats: Like, lent, left, by contract. -/
namespace Go.Proofs.Yteoebfjhadmnbaa
open Go.RowKit Ieee
set_option maxHeartbeats 4000000
set_option linter.unusedVariables false
set_option linter.unusedSimpArgs false
theorem like_b {a b : Nat} (h : cl a = cl b) (w : World) : Calls Try.prog 22 #[.float .f64 a, .float .f64 b] w fun e w' => e = .returned (.bool true) ∧ w' = w := by
  have hc : (isnan a = true ∧ isnan b = true ∧ fEq a b = false) ∨ (fEq a b = true) := by
    rw [isnan_cl, isnan_cl, fEq_cl, ← h]
    cases cl a with
    | none => exact .inl ⟨rfl, rfl, rfl⟩
    | some x => exact .inr (by simp [cEq])
  go_enter Try.func22, Try.ntmps22
  rcases hc with ⟨h1, h2, h3⟩ | h1
  all_goals
    go_wp2
    go_ret
    exact ⟨rfl, rfl⟩
theorem flat_encFl (l : List Nat) : l.flatMap encFl = l.map (Value.float .f64) := by
  induction l with
  | nil => rfl
  | cons x l ih => rw [List.flatMap_cons, ih]; rfl
theorem LiesF.src {w : World} {v : Value} {l : List Nat} (h : LiesF w v l) : Src w v l.length 1 (l.flatMap encFl) := by
  obtain ⟨A, cp, rfl, hc, h0, _, h⟩ := h
  cases A with
  | none =>
    obtain rfl := h0 rfl
    obtain rfl : l = [] := List.eq_nil_of_length_eq_zero (by omega)
    exact .inl ⟨rfl, rfl, rfl⟩
  | some ad =>
    refine .inr ⟨ad, cp, rfl, by rw [flat_encFl]; simp, fun j u hj => ?_, fun u hu => ?_⟩
    · rw [flat_encFl, List.getElem?_map] at hj
      by_cases hjl : j < l.length
      · obtain ⟨g, o, e, hcell⟩ := h j hjl
        injection e with e
        subst e
        rw [Addr.add_lit, hcell]
        rw [List.getElem?_eq_getElem hjl] at hj
        injection hj with hj
        rw [← hj, List.getD_eq_getElem?_getD, List.getElem?_eq_getElem hjl]
        rfl
      · rw [List.getElem?_eq_none (by omega)] at hj; cases hj
    · obtain ⟨x, _, hx⟩ := List.mem_flatMap.1 hu
      exact encFl_one x u hx
/-- numbers in new memory, one number behind them -/
def LentF (w : World) (v : Value) (l : List Nat) : Prop := ∃ A c, v = .slice A l.length c ∧ l.length + 1 ≤ c ∧ Fl w (.slice A (l.length + 1) c) (l ++ [4649993003539103744])
theorem LentF.keep {w w' : World} {v : Value} {l : List Nat} (h : LentF w v l) (hb : Below w.heap.size w w') : LentF w' v l := by
  obtain ⟨A, c, rfl, hc, hF⟩ := h
  exact ⟨A, c, rfl, hc, Sl.keep hF fun k hk => hb.block k (Sl.lt hF k hk)⟩
theorem LentF.lies {w : World} {v : Value} {l : List Nat} (h : LentF w v l) (hb : ∀ x ∈ l, x < 18446744073709551616) : LiesF w v l := by
  obtain ⟨A, c, rfl, hc, hF⟩ := h
  have := Sl.cut encFl_len hF (m := l.length) (c := c) (by simp) (by omega) (Nat.le_refl _)
  rw [List.take_left' rfl] at this
  exact Fl.lies this hb
set_option maxRecDepth 100000 in
theorem lent_b {w : World} {A : Option Addr} {cp : Nat} {l : List Nat} (hL : LiesF w (.slice A l.length cp) l) (hn : (l.length + 1) * 8 ≤ 140737488355328) :
    Calls Try.prog 19 #[.slice A l.length cp] w fun e w' => ∃ v, e = .returned v ∧ LentF w' v l ∧ Below w.heap.size w w' ∧ (∀ k, own v k → w.heap.size ≤ k) := by
  have HS := Lib.hid hL.src
  have hni : (l.length : Int) ≤ 17592186044415 := by omega
  replace hn := Lib.hid hn
  clear hL
  go_enter Try.func19, Try.ntmps19
  go_wp2_with (at_builtin; first
    | (refine wpList_all (e := 36) (sz := 1) (enc := encFl) w rfl (.const (.slice none 0 0)) (.tmp 4) 48 rfl Try.underlying48 f64_info rfl (by decide) (.slice none 0 0) (.slice A l.length cp) [] l rfl (Sl.nil _) rfl HS.out (by simp; omega) (by have := hn.out; simp; omega) ?_; intro A1 c1 w1 hc1 hv1 hf1; simp only [List.nil_append, List.length_nil, Nat.zero_add] at hc1 hv1 hf1 ⊢; replace hv1 := Lib.hid hv1; replace hf1 := Lib.hid hf1)
    | (refine wpList_one (e := 36) (sz := 1) encFl_len encFl_one w1 rfl (.tmp 5) (.tmp 6) 48 rfl Try.underlying48 f64_info rfl (by decide) (.slice A1 l.length c1) l 4649993003539103744 rfl hv1.out rfl (by omega) (by have := hn.out; omega) ?_; intro A2 c2 w2 hc2 hv2 hf2))
  have b1 := hf1.out.below (fun k hk => nomatch hk) (Nat.le_refl w.heap.size)
  have U1 := hf1.out.ge (fun k hk => nomatch hk) (Nat.le_refl w.heap.size)
  have b2 := b1.trans (hf2.below U1 b1.size)
  have U2 := hf2.ge U1 b1.size
  go_ret
  exact ⟨_, rfl, ⟨A2, c2, rfl, hc2, hv2⟩, b2, fun k hk => U2 k (own_len hk)⟩
set_option maxRecDepth 100000 in
theorem left_b {w : World} {v u : Value} {l : List Nat} (h : LentF w v l) (hu : LiesF w u l) (hn : (l.length + 1) * 8 ≤ 140737488355328) :
    Calls Try.prog 23 #[v, u] w fun e w' => e = .returned (.bool true) ∧ ∃ n, w' = w.drewN n := by
  obtain ⟨A, c, rfl, hc, hF⟩ := h
  have hU := Lib.hid hu
  obtain ⟨A2, c2, rfl, _, _, hbd, hcs⟩ := hu
  have hcs := Lib.hid hcs
  have hbd := Lib.hid hbd
  obtain ⟨g, off, hA, hgl, hcell⟩ := Sl.cell encFl_len (by decide) hF (i := l.length) (by simp)
  subst hA
  have d0 : ∀ W : World, (∃ n, W = w.drewN n) → ∀ j (hj : j < l.length), W.cell? ⟨g, off + j, none⟩ = some (.float .f64 (l.getD j 0)) := fun W ⟨n, e⟩ j hj => by
    have := (hcell j (by simp; omega) 0 (by decide)).1
    rw [List.getElem_append_left hj, show off + (j * 1 + 0) = off + j by omega] at this
    rw [e, List.getD_eq_getElem?_getD, List.getElem?_eq_getElem hj]
    exact this
  have d1 : w.cell? ⟨g, off + l.length, none⟩ = some (.float .f64 4649993003539103744) := by
    have := (hcell l.length (by simp) 0 (by decide)).1
    rw [List.getElem_append_right (Nat.le_refl _), show off + (l.length * 1 + 0) = off + l.length by omega] at this
    simpa [encFl] using this
  have hcl := Lib.hid d0
  clear d0 hcell hF
  have hni : (l.length : Int) ≤ 17592186044415 := by omega
  have hci : (l.length : Int) + 1 ≤ c := by omega
  have hq : fEq 4649993003539103744 4649993003539103744 = true := by decide
  have hq2 : isnan 4649993003539103744 = false := by decide
  have hlt : (l.length : Int) < (l.length : Int) + 1 := by omega
  clear hn hc
  go_enter Try.func23, Try.ntmps23
  go_wp2_with fail
  go_loopg [5] l.length (fun gk c5 wr => ∃ j : Nat, gk + j = l.length ∧ c5 = .int .i64 (j : Int) ∧ Hid (∃ n, wr = w.drewN n))
  case atStart => exact ⟨0, rfl, rfl, Lib.hid ⟨0, rfl⟩⟩
  case round =>
    obtain ⟨j, hgk, rfl, HW⟩ := hrel
    have HG := Lib.hid hgk
    clear hgk d1
    by_cases hj : j < l.length
    · obtain ⟨gk, rfl⟩ : ∃ g, gk = g + 1 := ⟨gk - 1, by have := HG.out; omega⟩
      have k1 := hcl.out wr HW.out j hj
      obtain ⟨gz, oz, rfl, k2⟩ := hcs.out j hj
      have k2 : wr.cell? ⟨gz, oz + j, none⟩ = some (.float .f64 (l.getD j 0)) := by obtain ⟨n, e⟩ := HW.out; rw [e]; exact k2
      have hji : (j : Int) < l.length := by omega
      clear hq hq2 hlt
      generalize l.getD j 0 = xj at *
      go_wp2
      go_quiet (fail)
      go_wp2
      go_roundg gk
      case measure => omega
      case rel => exact ⟨j + 1, by have := HG.out; omega, by go_num, Lib.hid (drew_more HW.out _)⟩
    · obtain rfl : j = l.length := by have := HG.out; omega
      clear hj
      go_wp2
      go_ret
      exact ⟨rfl, HW.out⟩
end Go.Proofs.Yteoebfjhadmnbaa
/- StatsFits: its walk, but for 'known'. -/
namespace Go.Proofs.Yteoebfjhadmnbaa
open Go.RowKit Ieee
set_option maxHeartbeats 4000000
set_option linter.unusedVariables false
set_option linter.unusedSimpArgs false
def TrueP (B : Nat) (w : World) : Ending → World → Prop := fun e w' => e = .returned (.bool true) ∧ Below B w w'
/-- what 'known' answers -/
def KnownC : Prop := ∀ w : World, Calls Try.prog 17 #[] w (TrueP w.heap.size w)
theorem num_b (e : Int) (w : World) : Calls Try.prog 18 #[.int .i64 e] w fun x w' => x = .returned (.int .i64 e) ∧ w' = w := by
  go_enter Try.func18, Try.ntmps18
  go_wp2
  go_ret
  exact ⟨rfl, rfl⟩
set_option maxRecDepth 100000 in
theorem statsFits_law (KN : KnownC) {W : World} {Ax Ay : Option Addr} {cx cy : Nat} {x y : List Nat} (hx : LiesF W (.slice Ax x.length cx) x) (hy : LiesF W (.slice Ay y.length cy) y) (hn : (x.length + 1) * 8 ≤ 140737488355328) (hn2 : (y.length + 1) * 8 ≤ 140737488355328) :
    Calls Try.prog 5 #[.slice Ax x.length cx, .slice Ay y.length cy] W (TrueP W.heap.size W) := by
  have HX := Lib.hid (fun (w' : World) (hb : Below W.heap.size W w') => hx.below hb)
  have HY := Lib.hid (fun (w' : World) (hb : Below W.heap.size W w') => hy.below hb)
  have hbx : Hid (∀ z ∈ x, z < 18446744073709551616) := Lib.hid (by obtain ⟨_, _, _, _, _, h, _⟩ := hx; exact h)
  have hby : Hid (∀ z ∈ y, z < 18446744073709551616) := Lib.hid (by obtain ⟨_, _, _, _, _, h, _⟩ := hy; exact h)
  have KN2 := Lib.hid KN
  replace hn := Lib.hid hn
  replace hn2 := Lib.hid hn2
  clear hx hy KN
  go_enter Try.func5, Try.ntmps5
  go_wp2_with fail
  refine (lent_b (HX.out _ (Below.refl _ _)) hn.out).mono ?_
  rintro _ w1 ⟨m, rfl, hm1, W1, -⟩
  replace W1 := Lib.hid W1
  replace hm1 := Lib.hid hm1
  go_wp2_with fail
  refine (lent_b (HY.out _ W1.out) hn2.out).mono ?_
  rintro _ w2 ⟨n, rfl, hn3, b2, -⟩
  have HM2 := Lib.hid (hm1.out.keep b2)
  have W2 := Lib.hid (W1.out.trans (b2.mono W1.out.size))
  replace hn3 := Lib.hid hn3
  clear hm1 b2 W1
  have LM := Lib.hid (HM2.out.lies hbx.out)
  have LN := Lib.hid (hn3.out.lies hby.out)
  have HN2 := hn3
  obtain ⟨Am, cm, rfl, -, -⟩ := id HM2.out
  obtain ⟨An, cn, rfl, -, -⟩ := id HN2.out
  clear hn3
  go_wp2_with fail
  refine (fit_b LM.out LN.out (by have := hn.out; omega) (by have := hn2.out; omega)).mono ?_
  rintro _ w3 ⟨s1, s2, s3, er, rfl, hp, b3⟩
  have HM3 := Lib.hid (HM2.out.keep b3)
  have HN3 := Lib.hid (HN2.out.keep b3)
  have W3 := Lib.hid (W2.out.trans (b3.mono W2.out.size))
  have Z3 := Lib.hid (Blk.new w3 51 #[.float .f64 s1, .float .f64 s2, .float .f64 s3])
  have W4 := Lib.hid (W3.out.alloc W3.out.size (.cells #[.float .f64 s1, .float .f64 s2, .float .f64 s3] 51))
  have b34 := (Below.refl w3.heap.size w3).alloc (Nat.le_refl _) (.cells #[.float .f64 s1, .float .f64 s2, .float .f64 s3] 51)
  have HM4 := Lib.hid (HM3.out.keep b34)
  have HN4 := Lib.hid (HN3.out.keep b34)
  replace hp := Lib.hid hp
  clear HM2 HN2 W2 b3 LM LN b34 HM3 HN3
  go_wp2_with fail
  generalize w3.alloc (.cells #[.float .f64 s1, .float .f64 s2, .float .f64 s3] 51) = w4 at *
  refine (rfit_b (HX.out _ W4.out) (HY.out _ W4.out) (by have := hn.out; omega) (by have := hn2.out; omega)).mono ?_
  rintro _ w5 ⟨r1, r2, r3, er2, rfl, hq, b5⟩
  have e := hp.out.trans hq.symm
  simp only [Prod.mk.injEq] at e
  obtain ⟨g1, g2, g3, rfl⟩ := e
  replace g1 := Lib.hid g1
  replace g2 := Lib.hid g2
  replace g3 := Lib.hid g3
  have HM5 := Lib.hid (HM4.out.keep b5)
  have HN5 := Lib.hid (HN4.out.keep b5)
  have Z5 := Lib.hid (Z3.out.below b5 Z3.out.lt)
  have W5 := Lib.hid (W4.out.trans (b5.mono W4.out.size))
  have b56 := (Below.refl w5.heap.size w5).alloc (Nat.le_refl _) (.cells #[.float .f64 r1, .float .f64 r2, .float .f64 r3] 51)
  have HM6 := Lib.hid (HM5.out.keep b56)
  have HN6 := Lib.hid (HN5.out.keep b56)
  have Y6 := Lib.hid (Blk.new w5 51 #[.float .f64 r1, .float .f64 r2, .float .f64 r3])
  have Z6 := Lib.hid (Z5.out.alloc (.cells #[.float .f64 r1, .float .f64 r2, .float .f64 r3] 51))
  have W6 := Lib.hid (W5.out.alloc W5.out.size (.cells #[.float .f64 r1, .float .f64 r2, .float .f64 r3] 51))
  clear hp hq HM4 HN4 Z3 W4 b5 HM5 HN5 Z5 W5 b56 W3
  have y0 := Y6.out.cell 0
  have y1 := Y6.out.cell 1
  have y2 := Y6.out.cell 2
  have z0 := Z6.out.cell 0
  have z1 := Z6.out.cell 1
  have z2 := Z6.out.cell 2
  simp only [List.getElem?_toArray, List.getElem?_cons_zero, List.getElem?_cons_succ] at y0 y1 y2 z0 z1 z2
  clear Y6 Z6
  go_wp2_with (go_at_call 18; refine (num_b _ _).mono ?_; rintro e _ ⟨rfl, rfl⟩)
  generalize w5.alloc (.cells #[.float .f64 r1, .float .f64 r2, .float .f64 r3] 51) = w6 at *
  refine (like_b g1.out _).mono ?_
  rintro _ _ ⟨rfl, rfl⟩
  go_wp2_with fail
  refine (like_b g2.out _).mono ?_
  rintro _ _ ⟨rfl, rfl⟩
  go_wp2_with fail
  refine (like_b g3.out _).mono ?_
  rintro _ _ ⟨rfl, rfl⟩
  rename_i w6
  go_wp2_with fail
  refine (left_b HM6.out (HX.out _ W6.out) hn.out).mono ?_
  rintro _ _ ⟨rfl, n1, rfl⟩
  have HN7 : Hid (LentF (w6.drewN n1) _ y) := Lib.hid (HN6.out.keep (below_drewNs (Below.refl _ _) n1))
  have W7 := Lib.hid (below_drewNs W6.out n1)
  clear y0 y1 y2 z0 z1 z2 HM6 HN6 W6 g1 g2 g3
  generalize w6.drewN n1 = w7 at *
  go_wp2_with fail
  refine (left_b HN7.out (HY.out _ W7.out) hn2.out).mono ?_
  rintro _ _ ⟨rfl, n2, rfl⟩
  have W8 := Lib.hid (below_drewNs W7.out n2)
  generalize w7.drewN n2 = w8 at *
  go_wp2_with fail
  refine (KN2.out _).mono ?_
  rintro _ w9 ⟨rfl, b9⟩
  have W9 := Lib.hid (W8.out.trans (b9.mono W8.out.size))
  go_wp2
  go_ret
  exact ⟨rfl, W9.out⟩
end Go.Proofs.Yteoebfjhadmnbaa
/- What the word functions compute, each by its contract. -/
namespace Go.Proofs.Yteoebfjhadmnbaa
open Go.RowKit

/-- The word of a double (by its bits). -/
def ofReal (b : Nat) : Int := if isnan b then 18446744073709551615 else if b < 9223372036854775808 then b + 9223372036854775808 else 18446744073709551615 - b
/-- The bits that a word stands for, before it is asked whether they are a number's. -/
def rawOf (x : Int) : Nat := if 9223372036854775808 ≤ x then (x - 9223372036854775808).toNat else (18446744073709551615 - x).toNat
/-- The double of a word; is there one? -/
def realOf (x : Int) : Nat := if x = 18446744073709551615 then 9221120237041090561 else if isnan (rawOf x) then 0 else rawOf x
def realIs (x : Int) : Bool := if x = 18446744073709551615 then true else !isnan (rawOf x)

theorem isnan_low (b : Nat) (h : b < 9223372036854775808) : isnan b = decide (9218868437227405312 < b) := by
  unfold isnan; rw [Nat.mod_eq_of_lt h]
theorem isnan_high (b : Nat) (h : 9223372036854775808 ≤ b) (h2 : b < 18446744073709551616) : isnan b = decide (18442240474082181120 < b) := by
  unfold isnan
  rw [Bool.eq_iff_iff]; simp only [decide_eq_true_eq]; omega

set_option maxHeartbeats 400000

theorem ofReal_any (b : Nat) (hb : b < 18446744073709551616) (w : World) :
    Calls Try.prog 74 #[.float .f64 b] w fun e w' => e = .returned (.int .u64 (ofReal b)) ∧ w = w' := by
  cases hn : isnan b with
  | true =>
    go_enter Try.func74, Try.ntmps74
    go_wp2
    go_ret
    exact ⟨ret_int (by simp [ofReal, hn]), rfl⟩
  | false =>
    have ha := u64_and_high b (by omega) (by omega)
    by_cases hlo : b < 9223372036854775808
    · rw [decide_eq_false (by omega)] at ha
      go_enter Try.func74, Try.ntmps74
      go_wp2
      go_ret
      exact ⟨ret_int (by simp only [ofReal, hn]; rw [if_neg (by simp), if_pos hlo]; exact u64_or_high b (by omega) (by omega)), rfl⟩
    · rw [decide_eq_true (by omega)] at ha
      go_enter Try.func74, Try.ntmps74
      go_wp2
      go_ret
      exact ⟨ret_int (by simp only [ofReal, hn]; rw [if_neg (by simp), if_neg hlo]; exact u64_not b (by omega) (by omega)), rfl⟩

end Go.Proofs.Yteoebfjhadmnbaa
/- More of the word functions by their contracts: whole numbers, pairs, comparisons, middles. -/
namespace Go.Proofs.Yteoebfjhadmnbaa
open Go.RowKit
set_option maxHeartbeats 400000

/-- the word of a whole number -/
def ofInt (x : Int) : Int := x + 9223372036854775808
/-- the word of a pair -/
def ofPair (a b : Int) : Int := (a + 2147483648) * 4294967296 + (b + 2147483648)


theorem half_word (a : Int) (h0 : -2147483648 ≤ a) (h1 : a ≤ 2147483647) : IntKind.u64.wrap (bits .xor .u32 (a % 4294967296) 2147483648) = a + 2147483648 := by
  rw [wrap_u64_mod, u32_xor_high _ (by omega) (by omega)]
  split <;> omega

theorem back_half (x : Int) (h0 : 0 ≤ x) (h1 : x ≤ 4294967295) : wrap32 (bits .xor .u32 x 2147483648) = x - 2147483648 := by
  rw [u32_xor_high _ h0 h1]; unfold wrap32
  split <;> omega

end Go.Proofs.Yteoebfjhadmnbaa
/- Comparisons, the next number, middles: by their contracts. -/
namespace Go.Proofs.Yteoebfjhadmnbaa
open Go.RowKit
set_option maxHeartbeats 400000

def cmp3 (x y : Int) : Int := if x < y then -1 else if y < x then 1 else 0

theorem cmpU_any (x y : Int) (w : World) :
    Calls Try.prog 73 #[.int .u64 x, .int .u64 y] w fun e w' => e = .returned (.int .i64 (cmp3 x y)) ∧ w = w' := by
  by_cases c1 : x < y
  · have hr := Lib.hid (show cmp3 x y = -1 by simp [cmp3, c1])
    go_enter Try.func73, Try.ntmps73
    go_wp2
    go_ret
    exact ⟨ret_int hr.out.symm, rfl⟩
  · by_cases c2 : y < x
    · have hr := Lib.hid (show cmp3 x y = 1 by simp [cmp3, c1, c2])
      go_enter Try.func73, Try.ntmps73
      go_wp2
      go_ret
      exact ⟨ret_int hr.out.symm, rfl⟩
    · have hr := Lib.hid (show cmp3 x y = 0 by simp [cmp3, c1, c2])
      go_enter Try.func73, Try.ntmps73
      go_wp2
      go_ret
      exact ⟨ret_int hr.out.symm, rfl⟩

theorem compare_any (a b : Nat) (ha : a < 18446744073709551616) (hb : b < 18446744073709551616) (w : World) :
    Calls Try.prog 65 #[.float .f64 a, .float .f64 b] w fun e w' => e = .returned (.int .i64 (cmp3 (ofReal a) (ofReal b))) ∧ w = w' := by
  go_enter Try.func65, Try.ntmps65
  go_wp2_with fail
  refine (ofReal_any _ ha _).mono ?_
  rintro e w' ⟨rfl, rfl⟩
  go_wp2_with fail
  refine (ofReal_any _ hb _).mono ?_
  rintro e w' ⟨rfl, rfl⟩
  go_wp2_with fail
  refine (cmpU_any _ _ _).mono ?_
  rintro e w' ⟨rfl, rfl⟩
  go_wp2_with fail
  go_ret
  exact ⟨rfl, rfl⟩

def alike (a b : Nat) : Bool := isnan a && isnan b || (a : Int) == b

def mid (x y : Int) : Int := if y < x then y + (x - y) / 2 else x + (y - x) / 2

theorem negzero_any (w : World) :
    Calls Try.prog 80 #[.float .f64 0, .float .f64 13830554455654793216] w fun e w' => e = .returned (.float .f64 9223372036854775808) ∧ w = w' := by
  have hr := Lib.hid (show (bits BinOp.or IntKind.u64 (bits BinOp.andNot IntKind.u64 0 9223372036854775808) (bits BinOp.and IntKind.u64 13830554455654793216 9223372036854775808)).toNat = 9223372036854775808 by decide)
  go_enter Try.func80, Try.ntmps80
  go_wp2
  go_ret
  exact ⟨ret_float hr.out, rfl⟩

end Go.Proofs.Yteoebfjhadmnbaa
