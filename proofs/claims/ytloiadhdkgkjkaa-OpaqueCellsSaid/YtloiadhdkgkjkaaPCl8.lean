/- opaque.Sights by contract, behind see's. -/
import Derived.Deep.LoopGhost
import Derived.Deep.DeepCutAuto
import Derived.Test.YtloiadhdkgkjkaaPCl4
import Derived.Test.YtloiadhdkgkjkaaPCl7
namespace Go.Proofs.Ytloiadhdkgkjkaa
open Go.RowKit
set_option maxHeartbeats 4000000
set_option linter.unusedVariables false
set_option linter.unusedSimpArgs false
theorem gO_info : (Try.prog.info? 40).map (fun i => (i.zero, i.size, i.bytes)) = some (some (.agg #[.int .i64 0, .int .i64 0, .int .i64 0, .int .u64 0, .int .i64 0, .int .i64 0, .int .i64 0, .int .i64 0, .int .i64 0, .int .i64 0]), 10, 80) := by kernel_rfl
theorem wpList_gO {ops : Array Oper} {rest : List Oper} {o : Oper} {a : Act} {Q : Exit → Act → World → Prop} (wr : World) (hgd : o.guard = none) (s x : Operand)
    (ho : o.op = .call { callee := .builtin .append, args := #[s, x], argTypes := #[25, 25] })
    (v : Value) (l : List (Sg × Int)) (y : Sg × Int) (hs : a.eval s = v) (hl : Sl 40 10 encG wr v l) (hx : a.eval x = .slice (some ⟨wr.heap.size, 0, none⟩) 1 1) (hb1 : l.length + 1 ≤ 9223372036854775807) (hlen : (l.length + 1) * 80 ≤ 140737488355328)
    (h : ∀ A cap w', l.length + 1 ≤ cap → Sl 40 10 encG w' (.slice A (l.length + 1) cap) (l ++ [y]) → Fr (own v) wr (own (.slice A (l.length + 1) cap)) w' → wpList Try.prog ops Q rest (a.put o.dst (.slice A (l.length + 1) cap)) w') :
    wpList Try.prog ops Q (o :: rest) a (wr.alloc (.cells (encG y).toArray 40)) :=
  wpList_one (enc := encG) encG_len encG_one wr hgd s x 25 ho Try.underlying25 gO_info rfl (by decide) v l y hs hl hx hb1 hlen h
set_option maxRecDepth 100000 in
theorem sights_b {w : World} {Af A : Option Addr} {first : List Int} {l : List Ev} {cf cp : Nat}
    (SEE : ∀ W, Below w.heap.size w W → Calls Try.prog 26 #[.slice Af first.length cf, .slice A l.length cp] W (SeeP W first l))
    (hJ : seeOdd first.length l = (-1, 0) → VJ (vn first (rn l l.length).tries l l.length) first.length) (hsz : l.length * 48 + 480 ≤ 140737488355328)
    (hsl : seeOdd first.length l = (-1, 0) → okTo l l.length → ((vn first (rn l l.length).tries l l.length).sights.length + 1) * 96 ≤ 140737488355328) :
    Calls Try.prog 8 #[.slice Af first.length cf, .slice A l.length cp] w fun x w' => Below w.heap.size w w' ∧ (((seeOdd first.length l).2 ≠ 0 ∧ x = .returned (.tuple #[.slice none 0 0, .agg #[.int .i64 (seeOdd first.length l).1, .int .i64 (seeOdd first.length l).2]])) ∨
      (seeOdd first.length l = (-1, 0) ∧ okTo l l.length ∧ ∃ ov, x = .returned (.tuple #[ov, .agg #[.int .i64 (-1), .int .i64 0]]) ∧ Sl 40 10 encG w' ov (sightsOf (vn first (rn l l.length).tries l l.length)) ∧ ∀ q, own ov q → w.heap.size ≤ q)) := by
  have hR1 := Blk.new w 28 #[.int .i64 0, .int .i64 0]
  have hb1 := (Below.refl w.heap.size w).alloc (Nat.le_refl _) (.cells #[.int .i64 0, .int .i64 0] 28)
  have S1 := Lib.hid (SEE _ hb1)
  replace hR1 := Lib.hid hR1
  replace hb1 := Lib.hid hb1
  replace hJ := Lib.hid hJ
  replace hsz := Lib.hid hsz
  replace hsl := Lib.hid hsl
  obtain ⟨w1, hw1⟩ : ∃ w1, w1 = w.alloc (.cells #[.int .i64 0, .int .i64 0] 28) := ⟨_, rfl⟩
  rw [← hw1] at hR1 hb1 S1
  have hs1 : w1.heap.size = w.heap.size + 1 := by rw [hw1]; simp
  replace hw1 := Lib.hid hw1
  clear SEE
  go_enter Try.func8, Try.ntmps8
  go_wp2_with fail
  go_step3
  go_wp2_with fail
  rw [← hw1.out]
  refine S1.out.mono ?_
  rintro e w2 ⟨hb2, (⟨ho, rfl⟩ | ⟨ho, hok, B, vb, nb, mb, fv, cv, sv, hB, rfl, hV, hVI⟩)⟩
  · obtain ⟨at0, hat0⟩ : ∃ x, (seeOdd first.length l).1 = x := ⟨_, rfl⟩
    obtain ⟨er0, her0⟩ : ∃ x, (seeOdd first.length l).2 = x := ⟨_, rfl⟩
    rw [hat0, her0]
    replace hat0 := Lib.hid hat0
    replace her0 := Lib.hid her0
    have hR2 := hR1.out.below hb2 hR1.out.lt
    have hb3 := Lib.hid ((hb1.out.trans (hb2.mono hb1.out.size)).alloc (hb1.out.trans (hb2.mono hb1.out.size)).size (.cells #[.int .i64 at0, .int .i64 er0] 28))
    have hR3 := hR2.alloc (.cells #[.int .i64 at0, .int .i64 er0] 28)
    have r0 := hR3.cell 0
    have r1 := hR3.cell 1
    have f0 := hR3.frozen 0
    have f1 := hR3.frozen 1
    simp only [List.getElem?_toArray, List.getElem?_cons_zero, List.getElem?_cons_succ] at r0 r1
    have hlt2 := hR2.lt
    have hne2 : w.heap.size ≠ w2.heap.size := by omega
    clear hb2 hR2 hR3 hR1 S1
    replace ho := Lib.hid ho
    go_wp2
    refine wp_region_mixH (fun _ => True) [1, 3, 2] (List.range 3) (by kernel_rfl) (by kernel_rfl) (fun _ _ h => h) trivial ?_
    (repeat ((first | refine wpMixH_pure rfl rfl (fun K hK => ?_) | refine wpMixH_loc rfl rfl (fun K hK => ?_) | refine wpMixH_any rfl rfl (fun K hK => ?_)); go_simp; refine hK _ _ ?_; clear hK K))
    refine wpMixH_loud rfl rfl (fun n1 K hK => ?_)
    go_wp2
    refine hK _ _ (fun _ => trivial) ?_; clear hK K
    refine wpMixH_nil (fun n2 => ?_)
    go_wp2
    try rw [Exit.noGoto_ret]
    refine bodyPost_ret (v := .tuple #[.slice none 0 0, .agg #[.int .i64 at0, .int .i64 er0]]) (by simp [results, Try.results8, go_sem, r0, r1, f0, f1]) rfl ⟨below_drewNs (((below_drewNs hb3.out _).setCell (Nat.le_refl _) _).setCell (Nat.le_refl _) _) _, .inl ⟨ho.out, by rw [hat0.out, her0.out]⟩⟩
  · obtain ⟨vv, hvv⟩ : ∃ vv, vv = vn first (rn l l.length).tries l l.length := ⟨_, rfl⟩
    rw [← hvv] at hV hVI hJ hsl
    have hVJ := Lib.hid (hJ.out ho)
    have hco := Lib.hid (cellsOk hVI hVJ.out (by have := hsz.out; omega))
    have hslen := Lib.hid (hsl.out ho hok)
    have hbw := Lib.hid (hb1.out.trans (hb2.mono hb1.out.size))
    have hR2 := Lib.hid (hR1.out.below hb2 hR1.out.lt)
    have hlt2 := hR2.out.lt
    obtain ⟨A2, cap2, hsv, hcap2, hA2⟩ := hV.svs
    subst hsv
    obtain ⟨w3, hw3⟩ : ∃ w3, w3 = (w2.alloc (.cells #[.int .i64 (-1), .int .i64 0] 28)).alloc (.cells #[] 40) := ⟨_, rfl⟩
    have hO3 : Blk w3 w2.heap.size 28 #[.int .i64 (-1), .int .i64 0] := by rw [hw3]; exact (Blk.new _ _ _).alloc _
    have hN3 : Sl 40 10 encG w3 (.slice (some ⟨w2.heap.size + 1, 0, none⟩) 0 0) [] := by
      have := Sl.new (e := 40) encG_len (w2.alloc (.cells #[.int .i64 (-1), .int .i64 0] 28)) [] (by simp)
      rw [World.size_alloc] at this
      rw [hw3]; exact this
    have hB3 : Below w2.heap.size w2 w3 := by rw [hw3]; exact ((Below.refl _ _).alloc (Nat.le_refl _) _).alloc (by simp) _
    have v3 := (hV.below hB3).c3
    rw [hw3] at v3
    have hlen : (vv.sights.length : Int) ≤ 9223372036854775807 := by have := hslen.out; omega
    replace hO3 := Lib.hid hO3
    replace hN3 := Lib.hid hN3
    replace hB3 := Lib.hid hB3
    replace hV := Lib.hid hV
    replace hVI := Lib.hid hVI
    replace hvv := Lib.hid hvv
    replace hw3 := Lib.hid hw3
    clear S1 hb2 hR1 hb1 hJ hsl
    go_wp2
    go_step3
    go_wp2
    rw [← hw3.out]
    go_loopg [8, 28] vv.sights.length (fun gk ov i wx => ∃ k : Nat, k + gk = vv.sights.length ∧ i = .int .i64 k ∧ Hid (Sl 40 10 encG wx ov ((sightsOf vv).take k)) ∧ Hid (∀ q, own ov q → w2.heap.size ≤ q) ∧ Hid (Blk wx w2.heap.size 28 #[.int .i64 (-1), .int .i64 0]) ∧ Hid (Below w2.heap.size w2 wx))
    case atStart => exact ⟨0, by omega, rfl, by simpa using hN3, Lib.hid fun q hq => by simp [own, Value.ownBlock] at hq; omega, hO3, hB3⟩
    case round =>
      obtain ⟨k, hkg, rfl, hS, hown, hO, hB2⟩ := hrel
      clear hN3 hO3 hB3 v3
      cases gk with
      | zero =>
        have hkz : k = vv.sights.length := by omega
        subst hkz
        have hR4 := hR2.out.below (hB2.out.mono (Nat.le_refl _)) hlt2
        have r0 := hR4.cell 0
        have r1 := hR4.cell 1
        have f0 := hR4.frozen 0
        have f1 := hR4.frozen 1
        have o0 := hO.out.cell 0
        have o1 := hO.out.cell 1
        simp only [List.getElem?_toArray, List.getElem?_cons_zero, List.getElem?_cons_succ] at r0 r1 o0 o1
        have hS4 : Hid (Sl 40 10 encG wr u8 (sightsOf vv)) := Lib.hid (by have := hS.out; rwa [List.take_of_length_le (by unfold sightsOf; simp)] at this)
        have hnR : ¬ own u8 w.heap.size := fun h => by have := hown.out _ h; omega
        have hb4 := Lib.hid (hbw.out.trans (hB2.out.mono (Nat.le_of_lt hlt2)))
        have hne2 : w.heap.size ≠ w2.heap.size := by omega
        have hfin : Hid (∀ j jj, Sl 40 10 encG ((((wr.drewN j).setCell ⟨w.heap.size, 0, none⟩ (.int .i64 (-1))).setCell ⟨w.heap.size, 1, none⟩ (.int .i64 0)).drewN jj) u8 (sightsOf vv)) := Lib.hid (fun j jj => (((hS4.out.drewN j).set (p := ⟨w.heap.size, 0, none⟩) hnR _).set (p := ⟨w.heap.size, 1, none⟩) hnR _).drewN jj)
        have hown2 := Lib.hid (fun q (hq : own u8 q) => Nat.le_trans (Nat.le_of_lt hlt2) (hown.out q hq))
        clear hR4 hS hO hB2 hV hVI hown
        rw [hvv.out] at hfin
        go_wp2
        refine wp_region_mixH (fun _ => True) [3, 1, 3, 2] (List.range 4) (by kernel_rfl) (by kernel_rfl) (fun _ _ h => h) trivial ?_
        (repeat ((first | refine wpMixH_pure rfl rfl (fun K hK => ?_) | refine wpMixH_loc rfl rfl (fun K hK => ?_) | refine wpMixH_any rfl rfl (fun K hK => ?_)); go_simp; refine hK _ _ ?_; clear hK K))
        refine wpMixH_loud rfl rfl (fun n1 K hK => ?_)
        go_wp2
        refine hK _ _ (fun _ => trivial) ?_; clear hK K
        refine wpMixH_nil (fun n2 => ?_)
        go_wp2
        try rw [Exit.noGoto_ret]
        refine bodyPost_ret (v := .tuple #[u8, .agg #[.int .i64 (-1), .int .i64 0]]) (by simp [results, Try.results8, go_sem, r0, r1, f0, f1]) rfl ⟨below_drewNs (((below_drewNs hb4.out _).setCell (Nat.le_refl _) _).setCell (Nat.le_refl _) _) _, .inr ⟨ho, hok, u8, rfl, hfin.out _ _, hown2.out⟩⟩
      | succ g0 =>
        have hlt : k < vv.sights.length := by omega
        have hlt' : (k : Int) < (vv.sights.length : Int) := by omega
        obtain ⟨gs, os, hA3⟩ := hA2 (by omega)
        subst hA3
        have hVx := Lib.hid (hV.out.below hB2.out)
        have hsx := hVx.out.sights
        obtain ⟨x, hx⟩ : ∃ x, x = vv.sights[k]'hlt := ⟨_, rfl⟩
        have xc : ∀ j, j < 10 → wr.cell? ⟨gs, os + (k * 10 + j), none⟩ = (encS (x, fv (8 + k)))[j]? := fun j hj => by rw [hx]; exact (sl_sx hsx hlt hj).1
        have x0 : wr.cell? ⟨gs, os + k * 10, none⟩ = some (.int .i64 x.tr.th) := (xc 0 (by decide)).trans rfl
        have x1 : wr.cell? ⟨gs, os + k * 10 + 1, none⟩ = some (.int .i64 x.tr.first) := by rw [Nat.add_assoc]; exact (xc 1 (by decide)).trans rfl
        have x2 : wr.cell? ⟨gs, os + k * 10 + 2, none⟩ = some (.int .i64 x.tr.last) := by rw [Nat.add_assoc]; exact (xc 2 (by decide)).trans rfl
        have x3 : wr.cell? ⟨gs, os + k * 10 + 3, none⟩ = some (.int .u64 x.tr.sn) := by rw [Nat.add_assoc]; exact (xc 3 (by decide)).trans rfl
        have x4 : wr.cell? ⟨gs, os + k * 10 + 4, none⟩ = some (.int .i64 x.tr.how) := by rw [Nat.add_assoc]; exact (xc 4 (by decide)).trans rfl
        have x5 : wr.cell? ⟨gs, os + k * 10 + 5, none⟩ = some (.int .i64 x.tr.rd) := by rw [Nat.add_assoc]; exact (xc 5 (by decide)).trans rfl
        have x6 : wr.cell? ⟨gs, os + k * 10 + 6, none⟩ = some (.int .i64 x.tr.wr) := by rw [Nat.add_assoc]; exact (xc 6 (by decide)).trans rfl
        obtain ⟨Ar, capr, hfr, hcr⟩ := (hVx.out.fam (8 + k) (by omega)).shape
        have hreads : content vv (8 + k) = x.reads := by unfold content; rw [if_neg (by omega), show 8 + k - 8 = k by omega, sg_get hlt, hx]
        rw [hreads] at hfr hcr
        have x7 : wr.cell? ⟨gs, os + k * 10 + 7, none⟩ = some (.slice Ar x.reads.length capr) := by rw [Nat.add_assoc, ← hfr]; exact (xc 7 (by decide)).trans rfl
        have x8 : wr.cell? ⟨gs, os + k * 10 + 8, none⟩ = some (.int .i64 x.fr) := by rw [Nat.add_assoc]; exact (xc 8 (by decide)).trans rfl
        have x9 : wr.cell? ⟨gs, os + k * 10 + 9, none⟩ = some (.int .i64 x.upto) := by rw [Nat.add_assoc]; exact (xc 9 (by decide)).trans rfl
        have hxm : x ∈ vv.sights := by rw [hx]; exact List.getElem_mem hlt
        have hxr := Lib.hid (hVJ.out.rd x hxm)
        have hxl : x.reads.length ≤ 9223372036854775807 := by have := hVI.out.rd x hxm; have := hsz.out; omega
        have hupl : (x.upto : Int) + 1 ≤ 9223372036854775807 := by have := (hVJ.out.up x hxm).2; have := hVI.out.cm; have := hsz.out; omega
        have hLr : LiesP wr (.slice Ar x.reads.length capr) x.reads := by
          have := liesP_sl (hVx.out.fam (8 + k) (by omega))
          rw [hreads, hfr] at this
          exact this
        have hsucc : Hid ((sightsOf vv).take (k + 1) = (sightsOf vv).take k ++ [(x, atOf vv.cells x)]) := Lib.hid (by
          rw [List.take_add_one, List.getElem?_eq_getElem (show k < (sightsOf vv).length by unfold sightsOf; simpa using hlt)]
          unfold sightsOf
          rw [hx]
          simp)
        have htl : ((sightsOf vv).take k).length = k := by rw [List.length_take]; unfold sightsOf; simp; omega
        obtain ⟨L, hL⟩ : ∃ L, L = (sightsOf vv).take k := ⟨_, rfl⟩
        rw [← hL] at hsucc htl hS
        have hLlen : Hid ((L.length + 1) * 80 ≤ 140737488355328) := Lib.hid (by rw [htl]; have := hslen.out; omega)
        replace hL := Lib.hid hL
        obtain ⟨wA, hwA⟩ : ∃ wA, wA = (wr.alloc (.cells #[.int .i64 x.tr.th, .int .i64 x.tr.first, .int .i64 x.tr.last, .int .u64 x.tr.sn, .int .i64 x.tr.how, .int .i64 x.tr.rd, .int .i64 x.tr.wr, .slice Ar x.reads.length capr, .int .i64 x.fr, .int .i64 x.upto] 70)).alloc (.cells #[.int .i64 x.tr.th, .int .i64 x.tr.first, .int .i64 x.tr.last, .int .u64 x.tr.sn, .int .i64 x.tr.how, .int .i64 x.tr.rd, .int .i64 x.tr.wr, .int .i64 x.fr, .int .i64 x.upto, .int .i64 (-1)] 40) := ⟨_, rfl⟩
        have hbA : Below wr.heap.size wr wA := by rw [hwA]; exact ((Below.refl _ _).alloc (Nat.le_refl _) _).alloc (by simp) _
        have hsbA : Blk wA wr.heap.size 70 #[.int .i64 x.tr.th, .int .i64 x.tr.first, .int .i64 x.tr.last, .int .u64 x.tr.sn, .int .i64 x.tr.how, .int .i64 x.tr.rd, .int .i64 x.tr.wr, .slice Ar x.reads.length capr, .int .i64 x.fr, .int .i64 x.upto] := by rw [hwA]; exact (Blk.new _ _ _).alloc _
        have hxbA : Blk wA (wr.heap.size + 1) 40 #[.int .i64 x.tr.th, .int .i64 x.tr.first, .int .i64 x.tr.last, .int .u64 x.tr.sn, .int .i64 x.tr.how, .int .i64 x.tr.rd, .int .i64 x.tr.wr, .int .i64 x.fr, .int .i64 x.upto, .int .i64 (-1)] := by
          have := Blk.new (wr.alloc (.cells #[.int .i64 x.tr.th, .int .i64 x.tr.first, .int .i64 x.tr.last, .int .u64 x.tr.sn, .int .i64 x.tr.how, .int .i64 x.tr.rd, .int .i64 x.tr.wr, .slice Ar x.reads.length capr, .int .i64 x.fr, .int .i64 x.upto] 70)) 40 #[.int .i64 x.tr.th, .int .i64 x.tr.first, .int .i64 x.tr.last, .int .u64 x.tr.sn, .int .i64 x.tr.how, .int .i64 x.tr.rd, .int .i64 x.tr.wr, .int .i64 x.fr, .int .i64 x.upto, .int .i64 (-1)]
          rw [World.size_alloc] at this
          rw [hwA]; exact this
        have hVA := Lib.hid (hVx.out.below hbA)
        have hLA := Lib.hid (hLr.below hbA)
        have hSA := Lib.hid (hS.out.keep (w' := wA) fun q hq => hbA.block q (hS.out.lt q hq))
        have hOA := Lib.hid (hO.out.below hbA hO.out.lt)
        have hBA := Lib.hid (hB2.out.trans (hbA.mono hB2.out.size))
        have hs2r := hB2.out.size
        have hrA : wr.heap.size < wA.heap.size := hsbA.lt
        replace hsbA := Lib.hid hsbA
        replace hxbA := Lib.hid hxbA
        replace hwA := Lib.hid hwA
        replace hx := Lib.hid hx
        replace htl := Lib.hid htl
        have holt := Lib.hid hS.out.lt
        clear hbA hVx hsx xc hS hO hB2 hLr hfr hcr hreads hxm
        obtain ⟨wq, hwq⟩ : ∃ wq : World, wq = wr := ⟨_, rfl⟩
        subst hwq
        go_upto_region 10 with (fail)
        rw [← hwA.out]
        obtain ⟨xb, hxb⟩ : ∃ xb, xb = wq.heap.size + 1 := ⟨_, rfl⟩
        obtain ⟨sb, hsb⟩ : ∃ sb, sb = wq.heap.size := ⟨_, rfl⟩
        rw [← hxb] at hxbA ⊢
        rw [← hsb] at hsbA hrA hs2r ⊢
        replace hxb := Lib.hid hxb
        replace hsb := Lib.hid hsb
        clear x0 x1 x2 x3 x4 x5 x6 x7 x8 x9
        obtain ⟨ov0, hov0⟩ : ∃ ov0, ov0 = u8 := ⟨_, rfl⟩
        subst hov0
        replace hxl := Lib.hid hxl
        replace hupl := Lib.hid hupl
        replace hs1 := Lib.hid hs1
        replace hkg := Lib.hid hkg
        replace hrA := Lib.hid hrA
        replace hs2r := Lib.hid hs2r
        replace hlt := Lib.hid hlt
        replace hB := Lib.hid hB
        replace hlt2 := Lib.hid hlt2
        replace hcap2 := Lib.hid hcap2
        replace ho := Lib.hid ho
        clear hA2
        go_loopg [8, 12] (x.upto + 1) (fun gk ov n wx => ov0 = ov ∧ gk ≤ x.upto + 1 ∧ n = .int .i64 ((gk : Int) - 1) ∧ Hid (atOf vv.cells x = seekS vv.cells x.reads x.fr gk) ∧ Hid (Below wA.heap.size wA wx))
        case atStart => exact ⟨rfl, Nat.le_refl _, by congr 1; omega, Lib.hid rfl, Lib.hid (Below.refl _ _)⟩
        case round =>
          obtain ⟨rfl, hgu, rfl, hat, hbx⟩ := hrel
          replace hgu := Lib.hid hgu
          have hsbx := hsbA.out.below hbx.out hsbA.out.lt
          have z0 := (hsbx.cell 7).trans (show _ = some (.slice Ar x.reads.length capr) from rfl)
          have z1 := (hsbx.cell 8).trans (show _ = some (.int .i64 x.fr) from rfl)
          have z2 := (hsbx.cell 9).trans (show _ = some (.int .i64 x.upto) from rfl)
          clear hsbx
          cases gk with
          | zero =>
            have hneg : ¬ ((x.fr : Int) ≤ -1) := by omega
            have hSF := hSA.out.keep (w' := wr) fun q hq => hbx.out.block q (hSA.out.lt q hq)
            have hOF := hOA.out.below hbx.out hOA.out.lt
            have hBF := hBA.out.trans (hbx.out.mono hBA.out.size)
            have hXF := hxbA.out.below hbx.out hxbA.out.lt
            have hatv : Hid (atOf vv.cells x = -1) := Lib.hid (by rw [hat.out]; rfl)
            have y0 := (hXF.cell 0).trans (show _ = some (.int .i64 x.tr.th) from rfl)
            have y1 := (hXF.cell 1).trans (show _ = some (.int .i64 x.tr.first) from rfl)
            have y2 := (hXF.cell 2).trans (show _ = some (.int .i64 x.tr.last) from rfl)
            have y3 := (hXF.cell 3).trans (show _ = some (.int .u64 x.tr.sn) from rfl)
            have y4 := (hXF.cell 4).trans (show _ = some (.int .i64 x.tr.how) from rfl)
            have y5 := (hXF.cell 5).trans (show _ = some (.int .i64 x.tr.rd) from rfl)
            have y6 := (hXF.cell 6).trans (show _ = some (.int .i64 x.tr.wr) from rfl)
            have y7 := (hXF.cell 7).trans (show _ = some (.int .i64 x.fr) from rfl)
            have y8 := (hXF.cell 8).trans (show _ = some (.int .i64 x.upto) from rfl)
            have y9 := (hXF.cell 9).trans (show _ = some (.int .i64 (-1)) from rfl)
            have hsF : w2.heap.size ≤ (wr).heap.size := hBF.size
            have HAPP := Lib.hid (fun (A4 : Option Addr) (cap4 : Nat) (w4 : World) (hS4 : Sl 40 10 encG w4 (.slice A4 (L.length + 1) cap4) (L ++ [(x, ((-1) : Int))])) (hF4 : Fr (own ov0) (wr) (own (.slice A4 (L.length + 1) cap4)) w4) => show ∃ k' : Nat, k' + g0 = vv.sights.length ∧ Value.int IntKind.i64 ((k : Int) + 1) = .int .i64 k' ∧ Hid (Sl 40 10 encG w4 (.slice A4 (L.length + 1) cap4) ((sightsOf vv).take k')) ∧ Hid (∀ q, own (.slice A4 (L.length + 1) cap4) q → w2.heap.size ≤ q) ∧ Hid (Blk w4 w2.heap.size 28 #[.int .i64 (-1), .int .i64 0]) ∧ Hid (Below w2.heap.size w2 w4) from
              ⟨k + 1, by have := hkg.out; omega, by go_num, Lib.hid (by rw [hsucc.out, hatv.out]; exact hS4), Lib.hid (fun q hq => (hF4.new q hq).elim (hown.out q) fun h => Nat.le_trans hsF h), Lib.hid (hF4.blk hOF (Sl.ne_ hSF hOF (by decide))), Lib.hid (hBF.trans (hF4.below hown.out hsF))⟩)
            replace hSF := Lib.hid hSF
            clear hXF hOF hBF hsF
            go_wp2_with (at_builtin; refine wpList_gO (wr) rfl (.tmp 58) (.tmp 60) rfl ov0 L (x, ((-1) : Int)) rfl hSF.out (by first | rfl | simp [World.setCell]) (by have := hLlen.out; omega) hLlen.out ?_; intro A4 cap4 w4 hc4 hS4 hF4; have HREL := Lib.hid (HAPP.out A4 cap4 w4 hS4 hF4); clear hS4 hF4)
            go_roundg g0
            case measure => omega
            case rel => exact HREL.out
          | succ j =>
            rw [show ((j + 1 : Nat) : Int) - 1 = (j : Int) by omega]
            by_cases hfr : x.fr ≤ j
            · have hfr' : (x.fr : Int) ≤ (j : Int) := by omega
              have hjj : (j : Int) ≤ 9223372036854775807 := by have := hupl.out; have := hgu.out; omega
              have ST := Lib.hid (stood_b (hVA.out.below hbx.out) hco.out (hLA.out.below hbx.out) hxl.out hxr.out j)
              obtain ⟨b, hb⟩ : ∃ b, b = stoodW vv.cells j x.reads := ⟨_, rfl⟩
              rw [← hb] at ST
              replace hb := Lib.hid hb
              replace hjj := Lib.hid hjj
              replace hfr := Lib.hid hfr
              cases b with
              | true =>
                go_upto_region 13 with (refine ST.out.mono ?_; rintro _ w5 ⟨rfl, hb5⟩)
                have hb6 := hbx.out.trans (hb5.mono hbx.out.size)
                have hX5 := hxbA.out.below hb6 hxbA.out.lt
                have y9' := (hX5.cell 9).trans (show _ = some (.int .i64 (-1)) from rfl)
                have f9' := hX5.frozen 9
                have hXF : Blk (w5.setCell ⟨xb, 9, none⟩ (.int .i64 j)) xb 40 #[.int .i64 x.tr.th, .int .i64 x.tr.first, .int .i64 x.tr.last, .int .u64 x.tr.sn, .int .i64 x.tr.how, .int .i64 x.tr.rd, .int .i64 x.tr.wr, .int .i64 x.fr, .int .i64 x.upto, .int .i64 j] := by have := hX5.set_ 9 (.int .i64 j); simpa using this
                have hS5 := hSA.out.keep (w' := w5) fun q hq => hb6.block q (hSA.out.lt q hq)
                have hO5 := hOA.out.below hb6 hOA.out.lt
                have hB5 := hBA.out.trans (hb6.mono hBA.out.size)
                have hnx : ¬ own ov0 xb := fun h => by have := holt.out _ h; rw [hxb.out] at this; omega
                have hSF := hS5.set (p := ⟨xb, 9, none⟩) hnx (.int .i64 j)
                have hOF := hO5.far (p := ⟨xb, 9, none⟩) (hO5.ne_ hX5 (by decide)) (.int .i64 j)
                have hgx : w2.heap.size ≤ xb := by rw [hxb.out]; have := hs2r.out; rw [hsb.out] at this; omega
                have hBF := hB5.setCell (p := ⟨xb, 9, none⟩) hgx (.int .i64 j)
                have hatv : Hid (atOf vv.cells x = (j : Int)) := Lib.hid (by rw [hat.out]; unfold seekS; rw [if_neg (by have := hfr.out; omega), if_pos hb.out.symm])
                clear hX5 hS5 hO5 hB5 hb5 hnx hb6
                replace hgx := Lib.hid hgx
                have y0 := (hXF.cell 0).trans (show _ = some (.int .i64 x.tr.th) from rfl)
                have y1 := (hXF.cell 1).trans (show _ = some (.int .i64 x.tr.first) from rfl)
                have y2 := (hXF.cell 2).trans (show _ = some (.int .i64 x.tr.last) from rfl)
                have y3 := (hXF.cell 3).trans (show _ = some (.int .u64 x.tr.sn) from rfl)
                have y4 := (hXF.cell 4).trans (show _ = some (.int .i64 x.tr.how) from rfl)
                have y5 := (hXF.cell 5).trans (show _ = some (.int .i64 x.tr.rd) from rfl)
                have y6 := (hXF.cell 6).trans (show _ = some (.int .i64 x.tr.wr) from rfl)
                have y7 := (hXF.cell 7).trans (show _ = some (.int .i64 x.fr) from rfl)
                have y8 := (hXF.cell 8).trans (show _ = some (.int .i64 x.upto) from rfl)
                have y9 := (hXF.cell 9).trans (show _ = some (.int .i64 j) from rfl)
                have hsF : w2.heap.size ≤ (w5.setCell ⟨xb, 9, none⟩ (.int .i64 j)).heap.size := hBF.size
                have HAPP := Lib.hid (fun (A4 : Option Addr) (cap4 : Nat) (w4 : World) (hS4 : Sl 40 10 encG w4 (.slice A4 (L.length + 1) cap4) (L ++ [(x, (j : Int))])) (hF4 : Fr (own ov0) (w5.setCell ⟨xb, 9, none⟩ (.int .i64 j)) (own (.slice A4 (L.length + 1) cap4)) w4) => show ∃ k' : Nat, k' + g0 = vv.sights.length ∧ Value.int IntKind.i64 ((k : Int) + 1) = .int .i64 k' ∧ Hid (Sl 40 10 encG w4 (.slice A4 (L.length + 1) cap4) ((sightsOf vv).take k')) ∧ Hid (∀ q, own (.slice A4 (L.length + 1) cap4) q → w2.heap.size ≤ q) ∧ Hid (Blk w4 w2.heap.size 28 #[.int .i64 (-1), .int .i64 0]) ∧ Hid (Below w2.heap.size w2 w4) from
                  ⟨k + 1, by have := hkg.out; omega, by go_num, Lib.hid (by rw [hsucc.out, hatv.out]; exact hS4), Lib.hid (fun q hq => (hF4.new q hq).elim (hown.out q) fun h => Nat.le_trans hsF h), Lib.hid (hF4.blk hOF (Sl.ne_ hSF hOF (by decide))), Lib.hid (hBF.trans (hF4.below hown.out hsF))⟩)
                replace hSF := Lib.hid hSF
                clear hXF hOF hBF hsF
                have hz9 : Hid ((w5.setCell ⟨xb, 9, none⟩ (.int .i64 j)).heap.size = w5.heap.size) := Lib.hid (by simp [World.setCell])
                go_wp2_with (at_builtin; refine wpList_gO (w5.setCell ⟨xb, 9, none⟩ (.int .i64 j)) rfl (.tmp 54) (.tmp 56) rfl ov0 L (x, (j : Int)) rfl hSF.out (by rw [hz9.out]; rfl) (by have := hLlen.out; omega) hLlen.out ?_; intro A4 cap4 w4 hc4 hS4 hF4; have HREL := Lib.hid (HAPP.out A4 cap4 w4 hS4 hF4); clear hS4 hF4)
                go_roundg g0
                case measure => omega
                case rel => exact HREL.out
              | false =>
                have hat' : Hid (atOf vv.cells x = seekS vv.cells x.reads x.fr j) := Lib.hid (by rw [hat.out, show seekS vv.cells x.reads x.fr (j + 1) = if j < x.fr then -1 else if stoodW vv.cells j x.reads = true then (j : Int) else seekS vv.cells x.reads x.fr j from rfl, if_neg (by have := hfr.out; omega), if_neg (by rw [← hb.out]; decide)])
                have hwj : IntKind.i64.wrap ((j : Int) - 1) = (j : Int) - 1 := IntWalk.i64_in _ (by have := hjj.out; omega)
                go_wp2_with fail
                refine ST.out.mono ?_
                rintro _ w5 ⟨rfl, hb5⟩
                have hb6 := Lib.hid (hbx.out.trans (hb5.mono hbx.out.size))
                clear hb5
                go_wp2
                go_roundg j
                case measure => omega
                case rel => exact ⟨rfl, by have := hgu.out; omega, rfl, hat', hb6⟩
            · have hfr' : ¬ (x.fr : Int) ≤ (j : Int) := by omega
              have hSF := hSA.out.keep (w' := wr) fun q hq => hbx.out.block q (hSA.out.lt q hq)
              have hOF := hOA.out.below hbx.out hOA.out.lt
              have hBF := hBA.out.trans (hbx.out.mono hBA.out.size)
              have hXF := hxbA.out.below hbx.out hxbA.out.lt
              have hatv : Hid (atOf vv.cells x = -1) := Lib.hid (by rw [hat.out]; unfold seekS; rw [if_pos (by omega)])
              have y0 := (hXF.cell 0).trans (show _ = some (.int .i64 x.tr.th) from rfl)
              have y1 := (hXF.cell 1).trans (show _ = some (.int .i64 x.tr.first) from rfl)
              have y2 := (hXF.cell 2).trans (show _ = some (.int .i64 x.tr.last) from rfl)
              have y3 := (hXF.cell 3).trans (show _ = some (.int .u64 x.tr.sn) from rfl)
              have y4 := (hXF.cell 4).trans (show _ = some (.int .i64 x.tr.how) from rfl)
              have y5 := (hXF.cell 5).trans (show _ = some (.int .i64 x.tr.rd) from rfl)
              have y6 := (hXF.cell 6).trans (show _ = some (.int .i64 x.tr.wr) from rfl)
              have y7 := (hXF.cell 7).trans (show _ = some (.int .i64 x.fr) from rfl)
              have y8 := (hXF.cell 8).trans (show _ = some (.int .i64 x.upto) from rfl)
              have y9 := (hXF.cell 9).trans (show _ = some (.int .i64 (-1)) from rfl)
              have hsF : w2.heap.size ≤ (wr).heap.size := hBF.size
              have HAPP := Lib.hid (fun (A4 : Option Addr) (cap4 : Nat) (w4 : World) (hS4 : Sl 40 10 encG w4 (.slice A4 (L.length + 1) cap4) (L ++ [(x, ((-1) : Int))])) (hF4 : Fr (own ov0) (wr) (own (.slice A4 (L.length + 1) cap4)) w4) => show ∃ k' : Nat, k' + g0 = vv.sights.length ∧ Value.int IntKind.i64 ((k : Int) + 1) = .int .i64 k' ∧ Hid (Sl 40 10 encG w4 (.slice A4 (L.length + 1) cap4) ((sightsOf vv).take k')) ∧ Hid (∀ q, own (.slice A4 (L.length + 1) cap4) q → w2.heap.size ≤ q) ∧ Hid (Blk w4 w2.heap.size 28 #[.int .i64 (-1), .int .i64 0]) ∧ Hid (Below w2.heap.size w2 w4) from
                ⟨k + 1, by have := hkg.out; omega, by go_num, Lib.hid (by rw [hsucc.out, hatv.out]; exact hS4), Lib.hid (fun q hq => (hF4.new q hq).elim (hown.out q) fun h => Nat.le_trans hsF h), Lib.hid (hF4.blk hOF (Sl.ne_ hSF hOF (by decide))), Lib.hid (hBF.trans (hF4.below hown.out hsF))⟩)
              replace hSF := Lib.hid hSF
              clear hXF hOF hBF hsF
              go_wp2_with (at_builtin; refine wpList_gO (wr) rfl (.tmp 58) (.tmp 60) rfl ov0 L (x, ((-1) : Int)) rfl hSF.out (by first | rfl | simp [World.setCell]) (by have := hLlen.out; omega) hLlen.out ?_; intro A4 cap4 w4 hc4 hS4 hF4; have HREL := Lib.hid (HAPP.out A4 cap4 w4 hS4 hF4); clear hS4 hF4)
              go_roundg g0
              case measure => omega
              case rel => exact HREL.out
end Go.Proofs.Ytloiadhdkgkjkaa
/- The document's Sights, plain, and what its walk holds in memory. -/
namespace Go.Proofs.Ytloiadhdkgkjkaa
open Go.RowKit
set_option maxHeartbeats 40000000
set_option linter.unusedVariables false
set_option linter.unusedSimpArgs false
/-- Where, from fr on, in n numbers of commits, words stood last; -1: nowhere. -/
def atR (L : List (List Int)) (words : List (Int × Int)) (fr : Nat) : Nat → Int
  | 0 => -1
  | n + 1 => if stoodR (L.getD (fr + n) []) words = true then ((fr + n : Nat) : Int) else atR L words fr n
def wordsR (l : List Ev) (y : Tr) : List (Int × Int) := rdF l y.th y.first (y.last + 1 - y.first)
def frR (W : List Nat) (y : Tr) : Nat := W.countP fun c => decide (c < y.first)
def upR (W : List Nat) (y : Tr) : Nat := W.countP fun c => decide (c ≤ y.last)
def siR (l : List Ev) (W : List Nat) (L : List (List Int)) (y : Tr) : Sg × Int := (⟨y, wordsR l y, frR W y, upR W y⟩, atR L (wordsR l y) (frR W y) (upR W y + 1 - frR W y))
def sigR (first : List Int) (l : List Ev) : List (Sg × Int) :=
  if (seeOdd first.length l).2 ≠ 0 then [] else (trsF l l.length).map (siR l (wrS l l.length).2 (stS first l (wrS l l.length).2 (wrS l l.length).2.length).2)
theorem tryS_rng {l : List Ev} {a : Nat} (ha : a < l.length) : ∀ n, a + 1 + n ≤ l.length → (tryS l a n).1.first = a ∧ a ≤ (tryS l a n).1.last ∧ (tryS l a n).1.last < l.length
  | 0, _ => ⟨rfl, Nat.le_refl _, ha⟩
  | n + 1, hn => by
    have h := tryS_rng ha n (by omega)
    show (if (tryS l a n).2 = true ∨ _ then tryS l a n else _ : Tr × Bool).1.first = a ∧ a ≤ (if (tryS l a n).2 = true ∨ _ then tryS l a n else _ : Tr × Bool).1.last ∧ (if (tryS l a n).2 = true ∨ _ then tryS l a n else _ : Tr × Bool).1.last < l.length
    split
    · exact h
    · unfold updR
      dsimp only
      omega
theorem tryF_rng {l : List Ev} {a : Nat} (ha : a < l.length) : (tryF l a).first = a ∧ a ≤ (tryF l a).last ∧ (tryF l a).last < l.length := tryS_rng ha _ (by omega)
theorem trsF_mem {l : List Ev} : ∀ {n : Nat}, n ≤ l.length → ∀ y ∈ trsF l n, ∃ a, a < n ∧ y = tryF l a
  | 0, _, y, hy => by simp [trsF] at hy
  | n + 1, hn, y, hy => by
    unfold trsF at hy
    split at hy
    · rw [List.mem_append, List.mem_singleton] at hy
      rcases hy with hy | hy
      · obtain ⟨a, h1, h2⟩ := trsF_mem (by omega) y hy; exact ⟨a, by omega, h2⟩
      · exact ⟨n, by omega, hy⟩
    · obtain ⟨a, h1, h2⟩ := trsF_mem (by omega) y hy; exact ⟨a, by omega, h2⟩
theorem rdF_mem {l : List Ev} {th : Int} {fr : Nat} : ∀ {n : Nat}, ∀ p ∈ rdF l th fr n, ∃ k, k < n ∧ (evAt l (fr + k)).kd = 2 ∧ p.1 = (evAt l (fr + k)).ad
  | 0, p, hp => by simp [rdF] at hp
  | n + 1, p, hp => by
    unfold rdF at hp
    split at hp
    · rename_i h
      rw [List.mem_append, List.mem_singleton] at hp
      rcases hp with hp | hp
      · obtain ⟨k, h1, h2⟩ := rdF_mem p hp; exact ⟨k, by omega, h2⟩
      · refine ⟨n, by omega, ?_, by rw [hp]⟩
        unfold rdK at h
        simp at h
        exact h.1.2
    · obtain ⟨k, h1, h2⟩ := rdF_mem p hp; exact ⟨k, by omega, h2⟩
theorem StsW.mono {B B' : Nat} {w : World} {ov : Value} {vs : List (Option Addr × Nat × Nat)} {L : List (List Int)} (h : StsW B w ov vs L) (hB : B' ≤ B) : StsW B' w ov vs L := ⟨h.sl, h.len, h.at_, fun q hq => Nat.le_trans hB (h.geo q hq), fun x hx q hq => Nat.le_trans hB (h.gev x hx q hq)⟩
theorem wpList_gON {ops : Array Oper} {rest : List Oper} {o : Oper} {a : Act} {Q : Exit → Act → World → Prop} (wr : World) (hgd : o.guard = none) (s x : Operand)
    (ho : o.op = .call { callee := .builtin .append, args := #[s, x], argTypes := #[25, 25] })
    (v : Value) (l : List (Sg × Int)) (y : Sg × Int) (n : Nat) (hn : l.length = n) (hs : a.eval s = v) (hl : Sl 40 10 encG wr v l) (hx : a.eval x = .slice (some ⟨wr.heap.size, 0, none⟩) 1 1) (hlen : (n + 1) * 80 ≤ 140737488355328)
    (h : ∀ A cap w', Sl 40 10 encG w' (.slice A (n + 1) cap) (l ++ [y]) → Fr (own v) wr (own (.slice A (n + 1) cap)) w' → wpList Try.prog ops Q rest (a.put o.dst (.slice A (n + 1) cap)) w') :
    wpList Try.prog ops Q (o :: rest) a (wr.alloc (.cells (encG y).toArray 40)) := by
  subst hn
  exact wpList_gO wr hgd s x ho v l y hs hl hx (by omega) hlen (fun A cap w' _ h1 h2 => h A cap w' h1 h2)
/-- What the walk of Sights holds in memory. -/
structure SiE (B : Nat) (w : World) (ovS : Value) (vs : List (Option Addr × Nat × Nat)) (L : List (List Int)) (vW : Value) (W : List Nat) (vT : Value) (T : List Tr) (rb ob : Nat) (vO : Value) (res : List (Sg × Int)) : Prop where
  st : StsW B w ovS vs L
  wi : Sl 3 1 encI w vW W
  tr : Sl 38 7 encT w vT T
  r : Blk w rb 28 #[.int .i64 0, .int .i64 0]
  o : Blk w ob 28 #[.int .i64 (-1), .int .i64 0]
  out : Sl 40 10 encG w vO res
  own : ∀ q, Proofs.Ytloiadhdkgkjkaa.own vO q → B ≤ q
section
variable {B : Nat} {w w' : World} {ovS : Value} {vs : List (Option Addr × Nat × Nat)} {L : List (List Int)} {vW : Value} {W : List Nat} {vT : Value} {T : List Tr} {rb ob : Nat} {vO vO' : Value} {res : List (Sg × Int)}
theorem SiE.below (h : SiE B w ovS vs L vW W vT T rb ob vO res) (hb : Below w.heap.size w w') : SiE B w' ovS vs L vW W vT T rb ob vO res :=
  ⟨h.st.below hb, h.wi.keep fun k hk => hb.block k (h.wi.lt k hk), h.tr.keep fun k hk => hb.block k (h.tr.lt k hk), h.r.below hb h.r.lt, h.o.below hb h.o.lt, h.out.keep fun k hk => hb.block k (h.out.lt k hk), h.own⟩
theorem SiE.snoc (h : SiE B w ovS vs L vW W vT T rb ob vO res) {x : Sg × Int} (hS : Sl 40 10 encG w' vO' (res ++ [x])) (hF : Fr (Proofs.Ytloiadhdkgkjkaa.own vO) w (Proofs.Ytloiadhdkgkjkaa.own vO') w') (hB : B ≤ w.heap.size) : SiE B w' ovS vs L vW W vT T rb ob vO' (res ++ [x]) where
  st := h.st.keep (fun q h1 h2 => hF.block q h2 fun ho => by obtain ⟨cs, hb⟩ := h.out.ofBlk ho; exact h.st.sl.ne_ hb (by decide) h1) (fun y hy q h1 h2 => hF.block q h2 fun ho => by
    obtain ⟨i, hi, rfl⟩ := List.getElem_of_mem hy
    obtain ⟨cs, hb⟩ := h.out.ofBlk ho
    exact Sl.ne_ (wl_sl (h.st.at_ i hi)) hb (by decide) h1)
  wi := h.wi.fr hF fun q h1 h2 => by obtain ⟨cs, hb⟩ := h.out.ofBlk h2; exact h.wi.ne_ hb (by decide) h1
  tr := h.tr.fr hF fun q h1 h2 => by obtain ⟨cs, hb⟩ := h.out.ofBlk h2; exact h.tr.ne_ hb (by decide) h1
  r := hF.blk h.r (h.out.ne_ h.r (by decide))
  o := hF.blk h.o (h.out.ne_ h.o (by decide))
  out := hS
  own := hF.ge h.own hB
end
end Go.Proofs.Ytloiadhdkgkjkaa
/- The document's answer for chapter 16: Sights by contract. -/
namespace Go.Proofs.Ytloiadhdkgkjkaa
open Go.RowKit
set_option maxHeartbeats 40000000
set_option linter.unusedVariables false
set_option linter.unusedSimpArgs false
theorem okTo_of_odd {l : List Ev} (h : (odd l).2 = 0) : ∀ n, n ≤ l.length → okTo l n
  | 0, _ => fun j hj => by omega
  | n + 1, hn => by
    have h1 := okTo_of_odd h n (by omega)
    by_cases hw : wrong (rn l n) (evAt l n) = 0
    · exact h1.succ hw
    · have := odd_bad h1 (by omega) hw
      rw [this] at h
      exact absurd h hw
theorem seeOdd_zero {n : Nat} {l : List Ev} (h : (seeOdd n l).2 = 0) : seeOdd n l = (-1, 0) := by
  unfold seeOdd at h ⊢
  by_cases h0 : n = 0 ∨ 65536 < n
  · rw [if_pos h0] at h; simp at h
  rw [if_neg h0] at h ⊢
  by_cases h1 : (odd l).2 ≠ 0
  · rw [if_pos h1] at h; exact absurd h h1
  rw [if_neg h1] at h ⊢
  by_cases h2 : 0 ≤ idxE plainE l
  · rw [if_pos h2] at h; simp at h
  rw [if_neg h2] at h ⊢
  by_cases h3 : 0 ≤ idxE (farE n) l
  · rw [if_pos h3] at h; simp at h
  rw [if_neg h3]
theorem stS_all (first : List Int) (l : List Ev) (W : List Nat) : ∀ j, ∀ x ∈ (stS first l W j).2, x.length = first.length
  | 0, x, hx => by
    have e : x = first := by simpa [stS] using hx
    rw [e]
  | j + 1, x, hx => by
    have h : x ∈ (stS first l W j).2 ++ [(stS first l W (j + 1)).1] := hx
    rw [List.mem_append, List.mem_singleton] at h
    rcases h with h | h
    · exact stS_all first l W j x h
    · rw [h]; exact (stS_len first l W (j + 1)).1
theorem trsF_rn (l : List Ev) : ∀ n, (trsF l n).length = (rn l n).tries.length
  | 0 => rfl
  | n + 1 => by
    show (if (evAt l n).kd = 1 then trsF l n ++ [tryF l n] else trsF l n).length = (take (rn l n) n (evAt l n)).tries.length
    rw [take_tries_len, ← trsF_rn l n]
    split
    · simp
    · rfl
set_option maxRecDepth 100000 in
theorem rsights_b {w : World} {Fv : Value} {A : Option Addr} {cp : Nat} {first : List Int} {l : List Ev} (hF : Lies w Fv first) (hL : LiesV w (.slice A l.length cp) l) (hwf : ∀ e ∈ l, EvWf e) (hsz : l.length * 48 + 480 ≤ 140737488355328) (hfl : first.length ≤ 9223372036854775807) :
    Calls Try.prog 10 #[Fv, .slice A l.length cp] w fun x w' => Below w.heap.size w w' ∧ ∃ ov, x = .returned (.tuple #[ov, .agg #[.int .i64 (seeOdd first.length l).1, .int .i64 (seeOdd first.length l).2]]) ∧ Sl 40 10 encG w' ov (sigR first l) ∧ ∀ q, own ov q → w.heap.size ≤ q := by
  obtain ⟨Af, cf, rfl, -⟩ := (show ∃ A cp, Fv = .slice A first.length cp ∧ True from by obtain ⟨A, cp, h1, _⟩ := hF; exact ⟨A, cp, h1, trivial⟩)
  have hlen : (l.length : Int) ≤ 9223372036854775807 := by omega
  have hR1 := Blk.new w 28 #[.int .i64 0, .int .i64 0]
  have hb1 := (Below.refl w.heap.size w).alloc (Nat.le_refl _) (.cells #[.int .i64 0, .int .i64 0] 28)
  have C1 := Lib.hid (rWrong_b (hF.below hb1) (hL.below hb1 (Nat.le_refl _)) hwf hsz hfl)
  obtain ⟨o1, ho1⟩ : ∃ o1, (seeOdd first.length l).1 = o1 := ⟨_, rfl⟩
  obtain ⟨o2, ho2⟩ : ∃ o2, (seeOdd first.length l).2 = o2 := ⟨_, rfl⟩
  rw [ho1, ho2] at C1 ⊢
  replace ho1 := Lib.hid ho1
  replace ho2 := Lib.hid ho2
  replace hR1 := Lib.hid hR1
  replace hb1 := Lib.hid hb1
  replace hL := Lib.hid hL
  replace hF := Lib.hid hF
  go_enter Try.func10, Try.ntmps10
  go_wp2_with fail
  refine C1.out.mono ?_
  rintro _ w2 ⟨rfl, hb2⟩
  have hR2 := hR1.out.below hb2 hR1.out.lt
  have hbw2 := hb1.out.trans (hb2.mono hb1.out.size)
  obtain ⟨w3, hw3⟩ : ∃ w3, w3 = w2.alloc (.cells #[.int .i64 o1, .int .i64 o2] 28) := ⟨_, rfl⟩
  have hR3 : Hid (Blk w3 w.heap.size 28 #[.int .i64 0, .int .i64 0]) := Lib.hid (by rw [hw3]; exact hR2.alloc _)
  have hO3 : Hid (Blk w3 w2.heap.size 28 #[.int .i64 o1, .int .i64 o2]) := Lib.hid (by rw [hw3]; exact Blk.new _ _ _)
  have hb3 : Hid (Below w.heap.size w w3) := Lib.hid (by rw [hw3]; exact hbw2.alloc hbw2.size _)
  have hne : w.heap.size ≠ w2.heap.size := Nat.ne_of_lt hR2.lt
  have hlt2 : Hid (w.heap.size < w2.heap.size) := Lib.hid hR2.lt
  subst hw3
  have x0 := (hO3.out.cell 0).trans (show _ = some (.int .i64 o1) from rfl)
  have x1 := (hO3.out.cell 1).trans (show _ = some (.int .i64 o2) from rfl)
  clear hb2 hR2 hbw2 C1 hb1 hR1
  by_cases hz : o2 = 0
  case neg =>
    have hz1 : (o2 != 0) = true := by simpa using hz
    have hsig : sigR first l = [] := by unfold sigR; rw [if_pos (by rw [ho2.out]; exact hz)]
    have r0 := (hR3.out.cell 0).trans (show _ = some (.int .i64 0) from rfl)
    have r1 := (hR3.out.cell 1).trans (show _ = some (.int .i64 0) from rfl)
    have f0 := hR3.out.frozen 0
    have f1 := hR3.out.frozen 1
    replace hz := Lib.hid hz
    replace hsig := Lib.hid hsig
    go_wp2
    refine wp_region_mixH (fun _ => True) [1, 3, 2] (List.range 3) (by kernel_rfl) (by kernel_rfl) (fun _ _ h => h) trivial ?_
    (repeat ((first | refine wpMixH_pure rfl rfl (fun K hK => ?_) | refine wpMixH_loc rfl rfl (fun K hK => ?_) | refine wpMixH_any rfl rfl (fun K hK => ?_)); go_simp; refine hK _ _ ?_; clear hK K))
    refine wpMixH_loud rfl rfl (fun n1 K hK => ?_)
    go_wp2
    refine hK _ _ (fun _ => trivial) ?_; clear hK K
    refine wpMixH_nil (fun n2 => ?_)
    go_wp2
    refine bodyPost_ret (v := .tuple #[.slice none 0 0, .agg #[.int .i64 o1, .int .i64 o2]]) (by simp [results, Try.results10, go_sem, r0, r1, f0, f1]) rfl ⟨below_drewNs (((below_drewNs hb3.out _).setCell (Nat.le_refl _) _).setCell (Nat.le_refl _) _) _, _, rfl, by rw [hsig.out]; exact Sl.nil _, fun q hq => absurd hq (no_own_nil q)⟩
  have hso := seeOdd_zero (n := first.length) (l := l) (by rw [ho2.out]; exact hz)
  obtain rfl : o1 = -1 := by rw [← ho1.out, hso]
  subst hz
  obtain ⟨⟨hf0, hf6⟩, hodd, hpl, hfar⟩ := seeOdd_ok hso
  have hok := okTo_of_odd hodd l.length (Nat.le_refl _)
  have hev : ∀ k, k < l.length → EvWf (evAt l k) ∧ fmd (evAt l k) = true ∧ farE first.length (evAt l k) = false := fun k hk => by
    have he := evAt_get hk
    exact ⟨by rw [he]; exact hwf _ (List.getElem_mem hk), (wrong_zero (hok k hk)).1, by rw [he]; exact idxE_neg hfar hk⟩
  have hth : ∀ k, k < l.length → 0 ≤ (evAt l k).th ∧ (evAt l k).th < 8 := fun k hk => (fmd_bd (hev k hk).2.1).1
  have had3 : ∀ k, k < l.length → (evAt l k).kd = 3 → 0 ≤ (evAt l k).ad ∧ (evAt l k).ad < (first.length : Int) := fun k hk h3 => by
    obtain ⟨h1, -, h2⟩ := hev k hk
    unfold farE at h2
    rw [h3] at h2
    simp at h2
    exact ⟨h1.2.2.1.1, h2⟩
  have had2 : ∀ k, k < l.length → (evAt l k).kd = 2 → 0 ≤ (evAt l k).ad ∧ (evAt l k).ad < (first.length : Int) := fun k hk h3 => by
    obtain ⟨h1, -, h2⟩ := hev k hk
    unfold farE at h2
    rw [h3] at h2
    simp at h2
    exact ⟨h1.2.2.1.1, h2⟩
  have htl : ∀ n, n ≤ l.length → (trsF l n).length * 56 ≤ 140737488355328 := fun n hn => by
    rw [trsF_rn]
    have h1 := (inv_rn hwf hn (fun j hj => hok j (by omega))).two
    have h2 := lives_le (rn l n)
    omega
  have hod : odd l = (-1, 0) := odd_ok hok
  have CS := Lib.hid (fun W (h1 : Lies W (.slice Af first.length cf) first) (h2 : LiesV W (.slice A l.length cp) l) => rstates_b h1 h2 hth had3 hf6)
  have CW := Lib.hid (fun W (h2 : LiesV W (.slice A l.length cp) l) => rwriting_b h2 hth)
  have CT := Lib.hid (fun W (h2 : LiesV W (.slice A l.length cp) l) => rtries_b h2 hwf hsz hod htl)
  have hsig : Hid (sigR first l = (trsF l l.length).map (siR l (wrS l l.length).2 (stS first l (wrS l l.length).2 (wrS l l.length).2.length).2)) := Lib.hid (by unfold sigR; rw [if_neg (by rw [ho2.out]; simp)])
  have hTm := Lib.hid (fun (y : Tr) (hy : y ∈ trsF l l.length) => (show (y.first ≤ y.last + 1) ∧ y.last < l.length from by obtain ⟨a, h1, rfl⟩ := trsF_mem (Nat.le_refl _) y hy; obtain ⟨h2, h3, h4⟩ := tryF_rng h1; omega))
  have hTl : Hid (((trsF l l.length).length + 1) * 80 ≤ 140737488355328) := Lib.hid (by
    rw [trsF_rn]
    have h1 := (inv_rn hwf (Nat.le_refl _) (fun j hj => hok j hj)).two
    have h2 := lives_le (rn l l.length)
    omega)
  have hWn := wrS_len l l.length
  have hLn := (stS_len first l (wrS l l.length).2 (wrS l l.length).2.length).2
  have hLl : Hid (∀ i, i < (stS first l (wrS l l.length).2 (wrS l l.length).2.length).2.length → ((stS first l (wrS l l.length).2 (wrS l l.length).2.length).2.getD i []).length = first.length) := Lib.hid (fun i hi => by rw [List.getD_eq_getElem?_getD, List.getElem?_eq_getElem hi]; exact stS_all _ _ _ _ _ (List.getElem_mem hi))
  generalize hWW : (wrS l l.length).2 = W at *
  generalize hLL : (stS first l W W.length).2 = L at *
  generalize hTT : trsF l l.length = T at *
  replace hWW := Lib.hid hWW
  replace hLL := Lib.hid hLL
  replace hTT := Lib.hid hTT
  replace hLn := Lib.hid hLn
  replace had2 := Lib.hid had2
  clear hev hth had3 htl hod hok hso hf0 hpl hfar hodd hwf
  go_wp2_with fail
  refine (CS.out _ (hF.out.below hb3.out) (hL.out.below hb3.out (Nat.le_refl _))).mono ?_
  rintro _ w4 ⟨hb4, ovS, vs, rfl, hT4⟩
  have hbw4 := Lib.hid (hb3.out.trans (hb4.mono hb3.out.size))
  go_wp2_with fail
  refine (CW.out _ (hL.out.below hbw4.out (Nat.le_refl _))).mono ?_
  rintro _ w5 ⟨hb5, vW, rfl, hS5, ho5⟩
  have hbw5 := Lib.hid (hbw4.out.trans (hb5.mono hbw4.out.size))
  go_wp2_with fail
  refine (CT.out _ (hL.out.below hbw5.out (Nat.le_refl _))).mono ?_
  rintro _ w6 ⟨hb6, vT, rfl, hS6, ho6⟩
  obtain ⟨AW, cW, rfl, -⟩ := hS5.shape
  obtain ⟨AT, cT, rfl, -⟩ := hS6.shape
  obtain ⟨AS, cS, rfl, -⟩ := hT4.sl.shape
  have hbw6 := hbw5.out.trans (hb6.mono hbw5.out.size)
  obtain ⟨w7, hw7⟩ : ∃ w7, w7 = w6.alloc (.cells #[.int .i64 (-1), .int .i64 0] 28) := ⟨_, rfl⟩
  have hE7 : Hid (SiE w.heap.size w7 (.slice AS vs.length cS) vs L (.slice AW W.length cW) W (.slice AT T.length cT) T w.heap.size w2.heap.size (.slice none 0 0) []) := Lib.hid (by
    have k5 : ∀ k, k < w4.heap.size → w6.heap[k]? = w4.heap[k]? := fun k hk => (hb6.block k (Nat.lt_of_lt_of_le hk hb5.size)).trans (hb5.block k hk)
    have h4 := hT4.keep (w' := w7) (fun q _ hq => by rw [hw7, Below.heap_alloc _ _ _ (Nat.lt_of_lt_of_le hq (Nat.le_trans hb5.size hb6.size))]; exact k5 q hq) (fun x _ q _ hq => by rw [hw7, Below.heap_alloc _ _ _ (Nat.lt_of_lt_of_le hq (Nat.le_trans hb5.size hb6.size))]; exact k5 q hq)
    have hR6 := ((hR3.out.below hb4 hR3.out.lt).below hb5 (Nat.lt_of_lt_of_le hR3.out.lt hb4.size)).below hb6 (Nat.lt_of_lt_of_le hR3.out.lt (Nat.le_trans hb4.size hb5.size))
    have hO6 := ((hO3.out.below hb4 hO3.out.lt).below hb5 (Nat.lt_of_lt_of_le hO3.out.lt hb4.size)).below hb6 (Nat.lt_of_lt_of_le hO3.out.lt (Nat.le_trans hb4.size hb5.size))
    exact ⟨h4.mono hb3.out.size, by rw [hw7]; exact (hS5.keep (w' := w6) fun k hk => hb6.block k (hS5.lt k hk)).alloc _, by rw [hw7]; exact hS6.alloc _, by rw [hw7]; exact hR6.alloc _, by rw [hw7]; exact hO6.alloc _, Sl.nil _, fun q hq => absurd hq (no_own_nil q)⟩)
  have hb7 : Hid (Below w.heap.size w w7) := Lib.hid (by rw [hw7]; exact hbw6.alloc hbw6.size _)
  have hTi : (T.length : Int) ≤ 9223372036854775807 := by have := hTl.out; omega
  replace hw7 := Lib.hid hw7
  clear hb4 hT4 hb5 hS5 ho5 hb6 hS6 ho6 hbw4 hbw5 hbw6 CS CW CT hR3 hO3 hb3 x0 x1 hF
  go_wp2
  rw [← hw7.out]
  go_loopw [11, 12] (fun c11 c12 wr => ∃ j : Nat, j ≤ T.length ∧ c12 = .int .i64 (j : Int) ∧ Hid (SiE w.heap.size wr (.slice AS vs.length cS) vs L (.slice AW W.length cW) W (.slice AT T.length cT) T w.heap.size w2.heap.size c11 ((T.take j).map (siR l W L))) ∧ Hid (Below w.heap.size w wr)) (fun _ c12 _ => T.length - (intOf c12).toNat)
  case atStart => exact ⟨0, Nat.zero_le _, rfl, hE7, hb7⟩
  case round =>
    obtain ⟨j, hj, rfl, hE, hbr⟩ := hrel
    clear hE7 hb7
    obtain ⟨AO, cO, hsh, -⟩ := hE.out.out.shape
    have hlj : Hid (((T.take j).map (siR l W L)).length = j) := Lib.hid (by rw [List.length_map, List.length_take, Nat.min_eq_left hj])
    rw [hlj.out] at hsh
    subst hsh
    by_cases hlt : j < T.length
    · have b1 : (j : Int) < T.length := by omega
      have w1 := IntWalk.i64_in (n := (j : Int) + 1) (by omega)
      obtain ⟨gT, oT, rfl, -, cT0⟩ := hE.out.tr.cell encT_len (by decide) hlt
      have d := fun q h => (cT0 j hlt q h).1
      obtain ⟨hy1, hy2⟩ := hTm.out _ (List.getElem_mem hlt)
      have htk : Hid ((T.take (j + 1)).map (siR l W L) = (T.take j).map (siR l W L) ++ [siR l W L T[j]]) := Lib.hid (by rw [List.take_add_one, List.getElem?_eq_getElem hlt, List.map_append]; rfl)
      generalize hyy : T[j] = y at *
      obtain ⟨th, fi, la, sn, ho, rd, wt⟩ := y
      dsimp only at hy1 hy2
      have d0 := d 0 (by decide)
      have d1 := d 1 (by decide)
      have d2 := d 2 (by decide)
      have d3 := d 3 (by decide)
      have d4 := d 4 (by decide)
      have d5 := d 5 (by decide)
      have d6 := d 6 (by decide)
      simp only [encT, List.getElem?_cons_zero, List.getElem?_cons_succ, Nat.add_zero] at d0 d1 d2 d3 d4 d5 d6
      simp only [← Nat.add_assoc] at d1 d2 d3 d4 d5 d6
      have e0 := cell_alloc_ (o := (.cells #[.int .i64 th, .int .i64 fi, .int .i64 la, .int .u64 sn, .int .i64 ho, .int .i64 rd, .int .i64 wt, .int .i64 0, .int .i64 0, .int .i64 (-1)] 40)) d0
      have e1 := cell_alloc_ (o := (.cells #[.int .i64 th, .int .i64 fi, .int .i64 la, .int .u64 sn, .int .i64 ho, .int .i64 rd, .int .i64 wt, .int .i64 0, .int .i64 0, .int .i64 (-1)] 40)) d1
      have e2 := cell_alloc_ (o := (.cells #[.int .i64 th, .int .i64 fi, .int .i64 la, .int .u64 sn, .int .i64 ho, .int .i64 rd, .int .i64 wt, .int .i64 0, .int .i64 0, .int .i64 (-1)] 40)) d2
      have e3 := cell_alloc_ (o := (.cells #[.int .i64 th, .int .i64 fi, .int .i64 la, .int .u64 sn, .int .i64 ho, .int .i64 rd, .int .i64 wt, .int .i64 0, .int .i64 0, .int .i64 (-1)] 40)) d3
      have e4 := cell_alloc_ (o := (.cells #[.int .i64 th, .int .i64 fi, .int .i64 la, .int .u64 sn, .int .i64 ho, .int .i64 rd, .int .i64 wt, .int .i64 0, .int .i64 0, .int .i64 (-1)] 40)) d4
      have e5 := cell_alloc_ (o := (.cells #[.int .i64 th, .int .i64 fi, .int .i64 la, .int .u64 sn, .int .i64 ho, .int .i64 rd, .int .i64 wt, .int .i64 0, .int .i64 0, .int .i64 (-1)] 40)) d5
      have e6 := cell_alloc_ (o := (.cells #[.int .i64 th, .int .i64 fi, .int .i64 la, .int .u64 sn, .int .i64 ho, .int .i64 rd, .int .i64 wt, .int .i64 0, .int .i64 0, .int .i64 (-1)] 40)) d6
      have hbA := (Below.refl wr.heap.size wr).alloc (Nat.le_refl _) (.cells #[.int .i64 th, .int .i64 fi, .int .i64 la, .int .u64 sn, .int .i64 ho, .int .i64 rd, .int .i64 wt, .int .i64 0, .int .i64 0, .int .i64 (-1)] 40)
      have hXA := Blk.new wr 40 #[.int .i64 th, .int .i64 fi, .int .i64 la, .int .u64 sn, .int .i64 ho, .int .i64 rd, .int .i64 wt, .int .i64 0, .int .i64 0, .int .i64 (-1)]
      have CR := Lib.hid (rreads_b (hL.out.below (hbr.out.trans (hbA.mono hbr.out.size)) (Nat.le_refl _)) th sn ho rd wt fi la hy1 hy2)
      replace hbA := Lib.hid hbA
      replace hXA := Lib.hid hXA
      replace hyy := Lib.hid hyy
      clear cT0 d
      go_wp2_with fail
      refine CR.out.mono ?_
      rintro _ w8 ⟨hb8, ov8, rfl, hS8, ho8⟩
      obtain ⟨A8, c8, rfl, -⟩ := hS8.shape
      have hX8 := Lib.hid (hXA.out.below hb8 hXA.out.lt)
      have hb9 := Lib.hid (hbA.out.trans (hb8.mono hbA.out.size))
      have hwl8 := rdF_len l th fi (la + 1 - fi)
      have hwm : Hid (∀ p ∈ rdF l th fi (la + 1 - fi), 0 ≤ p.1 ∧ p.1 < (first.length : Int)) := Lib.hid fun p hp => by
        obtain ⟨k, h1, h2, h3⟩ := rdF_mem p hp
        rw [h3]
        exact had2.out (fi + k) (by omega) h2
      have hsw : Hid (∀ q, own (.slice A8 (rdF l th fi (la + 1 - fi)).length c8) q → wr.heap.size < q) := Lib.hid fun q hq => by have := ho8 q hq; rw [World.size_alloc] at this; omega
      have hsiR : Hid (siR l W L ⟨th, fi, la, sn, ho, rd, wt⟩ = (⟨⟨th, fi, la, sn, ho, rd, wt⟩, rdF l th fi (la + 1 - fi), W.countP (fun c => decide (c < fi)), W.countP (fun c => decide (c ≤ la))⟩, atR L (rdF l th fi (la + 1 - fi)) (W.countP (fun c => decide (c < fi))) (W.countP (fun c => decide (c ≤ la)) + 1 - W.countP (fun c => decide (c < fi))))) := Lib.hid rfl
      replace hS8 := Lib.hid hS8
      generalize rdF l th fi (la + 1 - fi) = words at *
      obtain ⟨wq, hwq⟩ : ∃ wq : World, wq = wr := ⟨_, rfl⟩
      subst hwq
      have hgT := hE.out.tr.lt gT (by simp [own, Value.ownBlock])
      have DT : Hid (∀ W', Below wq.heap.size wq W' → W'.cell? ⟨gT, oT + j * 7 + 1, none⟩ = some (.int .i64 fi) ∧ W'.cell? ⟨gT, oT + j * 7 + 2, none⟩ = some (.int .i64 la)) := Lib.hid fun W' hb => ⟨(hb.cell (p := ⟨gT, oT + j * 7 + 1, none⟩) hgT).trans d1, (hb.cell (p := ⟨gT, oT + j * 7 + 2, none⟩) hgT).trans d2⟩
      have hfi : (fi : Int) ≤ 9223372036854775807 := by omega
      have hWi : (W.length : Int) ≤ 9223372036854775807 := by omega
      clear hb8 ho8 CR hXA hbA e0 e1 e2 e3 e4 e5 e6 d0 d1 d2 d3 d4 d5 d6 hgT
      go_wp2
      go_loopw [15] (fun c15 wr => ∃ m : Nat, m ≤ W.length ∧ c15 = .int .i64 (m : Int) ∧ Hid (Blk wr wq.heap.size 40 #[.int .i64 th, .int .i64 fi, .int .i64 la, .int .u64 sn, .int .i64 ho, .int .i64 rd, .int .i64 wt, .int .i64 (((W.take m).countP (fun c => decide (c < fi)) : Nat) : Int), .int .i64 (((W.take m).countP (fun c => decide (c ≤ la)) : Nat) : Int), .int .i64 (-1)]) ∧ Hid (Fr (fun q => q = wq.heap.size) w8 (fun q => q = wq.heap.size) wr)) (fun c15 _ => W.length - (intOf c15).toNat)
      case atStart => exact ⟨0, Nat.zero_le _, rfl, hX8, Lib.hid (Fr.refl _ _)⟩
      case round =>
        obtain ⟨m, hm, rfl, hB, hFr⟩ := hrel
        have hbn := hb9.out.trans (hFr.out.below (B := wq.heap.size) (fun q e => Nat.le_of_eq e.symm) hb9.out.size)
        by_cases hml : m < W.length
        · have bm : (m : Int) < W.length := by omega
          have wm := IntWalk.i64_in (n := (m : Int) + 1) (by omega)
          obtain ⟨gW, oW, rfl, hgW, cW0⟩ := hE.out.wi.cell encI_len (by decide) hml
          have k0 := (hbn.cell (p := ⟨gW, oW + (m * 1 + 0), none⟩) hgW).trans (cW0 m hml 0 (by decide)).1
          simp only [encI, List.getElem?_cons_zero, Nat.add_zero, Nat.mul_one] at k0
          obtain ⟨dt1, dt2⟩ := DT.out wr hbn
          have hcf : Hid ((W.take (m + 1)).countP (fun c => decide (c < fi)) = (W.take m).countP (fun c => decide (c < fi)) + if W[m] < fi then 1 else 0) := Lib.hid (by rw [List.take_add_one, List.getElem?_eq_getElem hml, List.countP_append]; simp [List.countP_cons])
          have hcu : Hid ((W.take (m + 1)).countP (fun c => decide (c ≤ la)) = (W.take m).countP (fun c => decide (c ≤ la)) + if W[m] ≤ la then 1 else 0) := Lib.hid (by rw [List.take_add_one, List.getElem?_eq_getElem hml, List.countP_append]; simp [List.countP_cons])
          have hl7 := List.countP_le_length (p := fun c => decide (c < fi)) (l := W.take m)
          have hl8 := List.countP_le_length (p := fun c => decide (c ≤ la)) (l := W.take m)
          rw [List.length_take] at hl7 hl8
          generalize (W.take m).countP (fun c => decide (c < fi)) = a7 at *
          generalize (W.take m).countP (fun c => decide (c ≤ la)) = a8 at *
          generalize W[m] = c at *
          have w7' := IntWalk.i64_in (n := (a7 : Int) + 1) (by omega)
          have w8' := IntWalk.i64_in (n := (a8 : Int) + 1) (by omega)
          have x7 := (hB.out.cell 7).trans (show _ = some (.int .i64 (a7 : Int)) from rfl)
          have x8 := (hB.out.cell 8).trans (show _ = some (.int .i64 (a8 : Int)) from rfl)
          have z7 := hB.out.frozen 7
          have z8 := hB.out.frozen 8
          have hneT : gT ≠ wq.heap.size := Nat.ne_of_lt (hE.out.tr.lt gT (by simp [own, Value.ownBlock]))
          have hneW : gW ≠ wq.heap.size := Nat.ne_of_lt hgW
          clear hbn cW0
          by_cases q1 : c < fi
          · have q1' : (c : Int) < (fi : Int) := by omega
            rw [if_pos q1] at hcf
            by_cases q2 : c ≤ la
            · have q2' : (c : Int) ≤ (la : Int) := by omega
              rw [if_pos q2] at hcu
              go_wp2
              go_quiet (fail)
              go_wp2
              go_quiet (fail)
              go_wp2
              go_roundw
              case rel => first | (exact ⟨m + 1, hml, by go_num, Lib.hid (Blk.cast ((((((hB.out.drewN _).set_ 7 (.int .i64 ((a7 : Int) + 1)))).drewN _).set_ 8 (.int .i64 ((a8 : Int) + 1)))) (by rw [hcf.out, hcu.out]; simp)), Lib.hid ((((((hFr.out.drewN _).set (p := ⟨wq.heap.size, 7, none⟩) (.inl rfl) (.int .i64 ((a7 : Int) + 1)))).drewN _).set (p := ⟨wq.heap.size, 8, none⟩) (.inl rfl) (.int .i64 ((a8 : Int) + 1))))⟩) | (exact ⟨m + 1, hml, by go_num, Lib.hid (Blk.cast ((((((hB.out.drewN _).set_ 7 (.int .i64 ((a7 : Int) + 1)))).drewN _).set_ 8 (.int .i64 ((a8 : Int) + 1)))) (by rw [hcf.out, hcu.out]; simp)), Lib.hid ((((((hFr.out.drewN _).set (p := ⟨wq.heap.size, 7, none⟩) (.inl rfl) (.int .i64 ((a7 : Int) + 1)))).drewN _).set (p := ⟨wq.heap.size, 8, none⟩) (.inl rfl) (.int .i64 ((a8 : Int) + 1))))⟩)
              case measure => simp [intOf]; omega
            · omega
          · have q1' : ¬ (c : Int) < (fi : Int) := by omega
            rw [if_neg q1] at hcf
            by_cases q2 : c ≤ la
            · have q2' : (c : Int) ≤ (la : Int) := by omega
              rw [if_pos q2] at hcu
              go_wp2
              go_quiet (fail)
              go_wp2
              go_quiet (fail)
              go_wp2
              go_roundw
              case rel => first | (exact ⟨m + 1, hml, by go_num, Lib.hid (Blk.cast (((hB.out.drewN _).set_ 8 (.int .i64 ((a8 : Int) + 1)))) (by rw [hcf.out, hcu.out]; simp)), Lib.hid (((hFr.out.drewN _).set (p := ⟨wq.heap.size, 8, none⟩) (.inl rfl) (.int .i64 ((a8 : Int) + 1))))⟩) | (exact ⟨m + 1, hml, by go_num, Lib.hid (Blk.cast ((((hB.out.drewN _).drewN _).set_ 8 (.int .i64 ((a8 : Int) + 1)))) (by rw [hcf.out, hcu.out]; simp)), Lib.hid ((((hFr.out.drewN _).drewN _).set (p := ⟨wq.heap.size, 8, none⟩) (.inl rfl) (.int .i64 ((a8 : Int) + 1))))⟩)
              case measure => simp [intOf]; omega
            · have q2' : ¬ (c : Int) ≤ (la : Int) := by omega
              rw [if_neg q2] at hcu
              go_wp2
              go_quiet (fail)
              go_wp2
              go_quiet (fail)
              go_wp2
              go_roundw
              case rel => first | (exact ⟨m + 1, hml, by go_num, Lib.hid (Blk.cast (hB.out.drewN _) (by rw [hcf.out, hcu.out]; simp)), Lib.hid (hFr.out.drewN _)⟩) | (exact ⟨m + 1, hml, by go_num, Lib.hid (Blk.cast ((hB.out.drewN _).drewN _) (by rw [hcf.out, hcu.out]; simp)), Lib.hid ((hFr.out.drewN _).drewN _)⟩)
              case measure => simp [intOf]; omega
        · have hm2 : m = W.length := by omega
          subst hm2
          rw [List.take_length] at hB
          have hfu := List.countP_le_length (p := fun c => decide (c < fi)) (l := W)
          have huu := List.countP_le_length (p := fun c => decide (c ≤ la)) (l := W)
          generalize W.countP (fun c => decide (c < fi)) = fr at *
          generalize W.countP (fun c => decide (c ≤ la)) = up at *
          have x7 := (hB.out.cell 7).trans (show _ = some (.int .i64 (fr : Int)) from rfl)
          clear hX8 DT hbn
          obtain ⟨wp, hwp⟩ : ∃ wp : World, wp = wr := ⟨_, rfl⟩
          subst hwp
          go_wp2
          go_loopw [16] (fun c16 wr => ∃ n : Nat, n ≤ up + 1 - fr ∧ c16 = .int .i64 ((fr + n : Nat) : Int) ∧ Hid (Blk wr wq.heap.size 40 #[.int .i64 th, .int .i64 fi, .int .i64 la, .int .u64 sn, .int .i64 ho, .int .i64 rd, .int .i64 wt, .int .i64 (fr : Int), .int .i64 (up : Int), .int .i64 (atR L words fr n)]) ∧ Hid (Fr (fun q => q = wq.heap.size) w8 (fun q => q = wq.heap.size) wr)) (fun c16 _ => up + 1 - (intOf c16).toNat)
          case atStart => exact ⟨0, Nat.zero_le _, rfl, hB, hFr⟩
          case round =>
            obtain ⟨n, hn, rfl, hB, hFr⟩ := hrel
            have hbn := hb9.out.trans (hFr.out.below (B := wq.heap.size) (fun q e => Nat.le_of_eq e.symm) hb9.out.size)
            have x8 := (hB.out.cell 8).trans (show _ = some (.int .i64 (up : Int)) from rfl)
            by_cases hnl : n < up + 1 - fr
            · have bm : ((fr + n : Nat) : Int) ≤ (up : Int) := by omega
              have bm0 : (0 : Int) ≤ ((fr + n : Nat) : Int) := by omega
              have wm := IntWalk.i64_in (n := ((fr + n : Nat) : Int) + 1) (by omega)
              have hEn := hE.out.below hbn
              have hvl : fr + n < vs.length := by rw [hEn.st.len, hLn.out]; omega
              have bv : ((fr + n : Nat) : Int) < vs.length := by omega
              obtain ⟨gS, oS, rfl, -, cS0⟩ := hEn.st.sl.cell encW_len (by decide) hvl
              have k0 := (cS0 (fr + n) hvl 0 (by decide)).1
              simp only [encW, List.getElem?_cons_zero, Nat.add_zero, Nat.mul_one] at k0
              have hLs := (hEn.st.at_ (fr + n) hvl).lies
              unfold headV at hLs
              have hlL := hLl.out (fr + n) (by rw [← hEn.st.len]; exact hvl)
              have hau : Hid (atR L words fr (n + 1) = if stoodR (L.getD (fr + n) []) words = true then ((fr + n : Nat) : Int) else atR L words fr n) := Lib.hid rfl
              have hS9 := hS8.out.fr hFr.out (fun q h1 h2 => by have := hsw.out q h1; omega)
              have ST := Lib.hid (rstood_b hLs hS9 (by rw [hlL]; omega) (by omega) (by rw [hlL]; exact hwm.out))
              generalize vs[fr + n] = xv at *
              obtain ⟨xv1, xv2, xv3⟩ := xv
              dsimp only at k0 ST
              obtain ⟨b, hb⟩ : ∃ b, stoodR (L.getD (fr + n) []) words = b := ⟨_, rfl⟩
              rw [hb] at ST hau
              replace hb := Lib.hid hb
              have z9 := hB.out.frozen 9
              have x9 := (hB.out.cell 9).trans (show _ = some (.int .i64 (atR L words fr n)) from rfl)
              clear hEn hLs hlL hS9 cS0 hbn
              generalize hm' : fr + n = m at *
              replace hm' := Lib.hid hm'
              cases b with
              | true =>
                rw [if_pos rfl] at hau
                go_wp2_with fail
                refine ST.out.mono ?_
                rintro _ _ ⟨rfl, n1, rfl⟩
                go_wp2
                go_roundw
                case rel => exact ⟨n + 1, by have := hm'.out; omega, by have := hm'.out; go_num, Lib.hid (Blk.cast ((hB.out.drewN _).set_ 9 (.int .i64 (m : Int))) (by rw [hau.out]; simp)), Lib.hid ((hFr.out.drewN _).set (p := ⟨wq.heap.size, 9, none⟩) (.inl rfl) (.int .i64 (m : Int)))⟩
                case measure => have := hm'.out; simp [intOf]; omega
              | false =>
                rw [if_neg (by simp)] at hau
                go_wp2_with fail
                refine ST.out.mono ?_
                rintro _ _ ⟨rfl, n1, rfl⟩
                go_wp2
                go_roundw
                case rel => exact ⟨n + 1, by have := hm'.out; omega, by have := hm'.out; go_num, Lib.hid (by rw [hau.out]; exact hB.out.drewN _), Lib.hid (hFr.out.drewN _)⟩
                case measure => have := hm'.out; simp [intOf]; omega
            · have hn2 : n = up + 1 - fr := by omega
              have bm : ¬ ((fr + n : Nat) : Int) ≤ (up : Int) := by omega
              subst hn2
              have hEn := hE.out.below hbn
              have hbr2 := hbr.out.trans (hbn.mono hbr.out.size)
              obtain ⟨at_, hat⟩ : ∃ z, atR L words fr (up + 1 - fr) = z := ⟨_, rfl⟩
              rw [hat] at hB hsiR
              generalize hm' : fr + (up + 1 - fr) = m at *
              replace hm' := Lib.hid hm'
              replace hat := Lib.hid hat
              have y0 := (hB.out.cell 0).trans (show _ = some (.int .i64 th) from rfl)
              have y1 := (hB.out.cell 1).trans (show _ = some (.int .i64 fi) from rfl)
              have y2 := (hB.out.cell 2).trans (show _ = some (.int .i64 la) from rfl)
              have y3 := (hB.out.cell 3).trans (show _ = some (.int .u64 sn) from rfl)
              have y4 := (hB.out.cell 4).trans (show _ = some (.int .i64 ho) from rfl)
              have y5 := (hB.out.cell 5).trans (show _ = some (.int .i64 rd) from rfl)
              have y6 := (hB.out.cell 6).trans (show _ = some (.int .i64 wt) from rfl)
              have y7 := (hB.out.cell 7).trans (show _ = some (.int .i64 (fr : Int)) from rfl)
              have y8 := (hB.out.cell 8).trans (show _ = some (.int .i64 (up : Int)) from rfl)
              have y9 := (hB.out.cell 9).trans (show _ = some (.int .i64 at_) from rfl)
              have hrl : Hid ((j + 1) * 80 ≤ 140737488355328) := Lib.hid (by have := hTl.out; omega)
              generalize hres : (T.take j).map (siR l W L) = res at *
              replace hres := Lib.hid hres
              have FIN : Hid (∀ A5 cap5 w5, Sl 40 10 encG w5 (.slice A5 (j + 1) cap5) (res ++ [((⟨⟨th, fi, la, sn, ho, rd, wt⟩, words, fr, up⟩ : Sg), at_)]) → Fr (own (.slice AO j cO)) wr (own (.slice A5 (j + 1) cap5)) w5 →
                  SiE w.heap.size w5 (.slice AS vs.length cS) vs L (.slice AW W.length cW) W (.slice (some ⟨gT, oT, none⟩) T.length cT) T w.heap.size w2.heap.size (.slice A5 (j + 1) cap5) ((T.take (j + 1)).map (siR l W L)) ∧ Below w.heap.size w w5) := Lib.hid fun A5 cap5 w5 hS5 hF5 =>
                ⟨by rw [htk.out, hsiR.out]; exact hEn.snoc hS5 hF5 hbr2.size, hbr2.trans (hF5.below hEn.own hbr2.size)⟩
              have hSo := Lib.hid hEn.out
              clear hEn hbr2 hbn hB hFr hE hbr x8
              go_wp2_with (at_builtin; refine wpList_gON wr rfl (.tmp 101) (.tmp 103) rfl (.slice AO j cO) res ((⟨⟨th, fi, la, sn, ho, rd, wt⟩, words, fr, up⟩ : Sg), at_) j hlj.out rfl hSo.out rfl hrl.out ?_; intro A5 cap5 w5 hS5 hF5; have FN := Lib.hid (FIN.out A5 cap5 w5 hS5 hF5); clear hS5 hF5)
              go_roundw
              case rel => exact ⟨j + 1, hlt, by go_num, Lib.hid FN.out.1, Lib.hid FN.out.2⟩
              case measure => simp [intOf]; omega
    · have hj2 : j = T.length := by omega
      subst hj2
      rw [List.take_length] at hE
      have hEo := hE.out.out
      rw [← hsig.out] at hEo
      have hR := Lib.hid hE.out.r
      have hO := hE.out.o
      have x0 := (hO.cell 0).trans (show _ = some (.int .i64 (-1)) from rfl)
      have x1 := (hO.cell 1).trans (show _ = some (.int .i64 0) from rfl)
      have r0 := (hR.out.cell 0).trans (show _ = some (.int .i64 0) from rfl)
      have r1 := (hR.out.cell 1).trans (show _ = some (.int .i64 0) from rfl)
      have f0 := hR.out.frozen 0
      have f1 := hR.out.frozen 1
      have hS9 := Lib.hid (fun j jj => ((hEo.drewN j).set (p := ⟨w.heap.size, 0, none⟩) (hEo.ne_ hR.out (by decide)) (.int .i64 (-1))).set (p := ⟨w.heap.size, 1, none⟩) (hEo.ne_ hR.out (by decide)) (.int .i64 0) |>.drewN jj)
      have hb9 := Lib.hid (fun j jj => below_drewNs (((below_drewNs hbr.out j).setCell (p := ⟨w.heap.size, 0, none⟩) (Nat.le_refl _) (.int .i64 (-1))).setCell (p := ⟨w.heap.size, 1, none⟩) (Nat.le_refl _) (.int .i64 0)) jj)
      have hown := Lib.hid hE.out.own
      clear hE hbr hO hEo hR
      go_wp2
      refine wp_region_mixH (fun _ => True) [3, 1, 3, 2] (List.range 4) (by kernel_rfl) (by kernel_rfl) (fun _ _ h => h) trivial ?_
      (repeat ((first | refine wpMixH_pure rfl rfl (fun K hK => ?_) | refine wpMixH_loc rfl rfl (fun K hK => ?_) | refine wpMixH_any rfl rfl (fun K hK => ?_)); go_simp; refine hK _ _ ?_; clear hK K))
      refine wpMixH_loud rfl rfl (fun n1 K hK => ?_)
      go_wp2
      refine hK _ _ (fun _ => trivial) ?_; clear hK K
      refine wpMixH_nil (fun n2 => ?_)
      go_wp2
      refine bodyPost_ret (v := .tuple #[.slice AO T.length cO, .agg #[.int .i64 (-1), .int .i64 0]]) (by simp [results, Try.results10, go_sem, r0, r1, f0, f1]) rfl ⟨hb9.out _ _, _, rfl, hS9.out _ _, hown.out⟩
end Go.Proofs.Ytloiadhdkgkjkaa
/- Plain law of chapter 16: the attempts that the look gathers are the document's. -/
namespace Go.Proofs.Ytloiadhdkgkjkaa
set_option maxHeartbeats 4000000
set_option linter.unusedVariables false
set_option linter.unusedSimpArgs false
/-- The places of the Begins below k. -/
def begs (l : List Ev) : Nat → List Nat
  | 0 => []
  | k + 1 => if (evAt l k).kd = 1 then begs l k ++ [k] else begs l k
theorem begs_lt (l : List Ev) : ∀ k, ∀ a ∈ begs l k, a < k
  | 0, a, h => by simp [begs] at h
  | k + 1, a, h => by
    have h : a ∈ (if (evAt l k).kd = 1 then begs l k ++ [k] else begs l k) := h
    split at h
    · rw [List.mem_append, List.mem_singleton] at h
      rcases h with h | h
      · have := begs_lt l k a h; omega
      · omega
    · have := begs_lt l k a h; omega
theorem trsF_begs (l : List Ev) : ∀ k, trsF l k = (begs l k).map (tryF l)
  | 0 => rfl
  | k + 1 => by
    show (if (evAt l k).kd = 1 then trsF l k ++ [tryF l k] else trsF l k) = (if (evAt l k).kd = 1 then begs l k ++ [k] else begs l k).map (tryF l)
    rw [trsF_begs l k]
    split
    · rw [List.map_append]; rfl
    · rfl
/-- An attempt as it stands ahead of event k. -/
def tryK (l : List Ev) (k a : Nat) : Tr := (tryS l a (k - (a + 1))).1
theorem tryS_succ (l : List Ev) (a n : Nat) : tryS l a (n + 1) = if (tryS l a n).2 = true ∨ (evAt l (a + 1 + n)).th ≠ (tryS l a n).1.th then tryS l a n else (updR (tryS l a n).1 (a + 1 + n) (evAt l (a + 1 + n)), endK (evAt l (a + 1 + n)).kd) := rfl
theorem endK_iff (k : Int) : endK k = true ↔ k = 6 ∨ k = 7 ∨ k = 8 ∨ k = 9 := by unfold endK; simp [or_assoc]
theorem tryS_how (l : List Ev) (a : Nat) : ∀ n, (tryS l a n).2 = true ↔ (tryS l a n).1.how ≠ 0
  | 0 => by simp [tryS]
  | n + 1 => by
    rw [tryS_succ]
    split
    · exact tryS_how l a n
    · rename_i h
      have h2 : ¬ (tryS l a n).2 = true := fun e => h (.inl e)
      have h3 := tryS_how l a n
      have h4 : (tryS l a n).1.how = 0 := by
        by_cases e : (tryS l a n).1.how = 0
        · exact e
        · exact absurd (h3.2 e) h2
      dsimp only
      unfold updR
      dsimp only
      by_cases he : endK (evAt l (a + 1 + n)).kd = true
      · rw [if_pos he]
        refine ⟨fun _ => ?_, fun _ => he⟩
        rcases (endK_iff _).1 he with e | e | e | e <;> rw [e] <;> decide
      · rw [if_neg he]
        exact ⟨fun e => absurd e he, fun e => absurd h4 e⟩
theorem tryS_fix (l : List Ev) (a : Nat) : ∀ n, (tryS l a n).1.th = (evAt l a).th ∧ (tryS l a n).1.first = a
  | 0 => ⟨rfl, rfl⟩
  | n + 1 => by
    have h := tryS_fix l a n
    rw [tryS_succ]
    split
    · exact h
    · exact h
theorem tryK_succ {l : List Ev} {k a : Nat} (h : a < k) : tryK l (k + 1) a = if (tryK l k a).how ≠ 0 ∨ (evAt l k).th ≠ (tryK l k a).th then tryK l k a else updR (tryK l k a) k (evAt l k) := by
  unfold tryK
  obtain ⟨n, rfl⟩ : ∃ n, k = a + 1 + n := ⟨k - (a + 1), by omega⟩
  rw [show a + 1 + n + 1 - (a + 1) = n + 1 by omega, show a + 1 + n - (a + 1) = n by omega, tryS_succ]
  by_cases hc : (tryS l a n).2 = true ∨ (evAt l (a + 1 + n)).th ≠ (tryS l a n).1.th
  · rw [if_pos hc, if_pos (hc.imp (tryS_how l a n).1 id)]
  · rw [if_neg hc, if_neg (fun h => hc (h.imp (tryS_how l a n).2 id))]
theorem tryK_new (l : List Ev) (k : Nat) : tryK l (k + 1) k = ⟨(evAt l k).th, k, k, (evAt l k).wd, 0, 0, 0⟩ := by
  unfold tryK
  rw [Nat.sub_self]
  rfl
theorem updR_updT (x : Tr) (k : Nat) (e : Ev) (h : e.kd ≠ 1) : updT x k e = updR x k e := by
  unfold updT updR
  have e1 : (endK e.kd = true) = (e.kd = 6 ∨ e.kd = 7 ∨ e.kd = 8 ∨ e.kd = 9) := propext (endK_iff _)
  simp only [e1, h, false_or]
theorem get_modify_ne {α : Type} {l : List α} {i j : Nat} {f : α → α} (h : i ≠ j) : (l.modify i f)[j]? = l[j]? := by
  rw [List.getElem?_modify]
  cases l[j]? with
  | none => rfl
  | some x => show some (if i = j then f x else x) = some x; rw [if_neg h]
theorem get_modify_eq {α : Type} {l : List α} {i : Nat} {f : α → α} : (l.modify i f)[i]? = l[i]?.map f := by
  rw [List.getElem?_modify]
  cases l[i]? with
  | none => rfl
  | some x => show some (if i = i then f x else x) = some (f x); rw [if_pos rfl]
/-- The look's attempts are the document's, as they stand. -/
theorem rn_tries {l : List Ev} (hwf : ∀ e ∈ l, EvWf e) (hok : okTo l l.length) : ∀ k, k ≤ l.length → (rn l k).tries = (begs l k).map (tryK l k)
  | 0, _ => rfl
  | k + 1, hk => by
    have ih := rn_tries hwf hok k (by omega)
    have hI := inv_rn hwf (show k ≤ l.length by omega) (fun j hj => hok j (by omega))
    have hw := hok k (by omega)
    obtain ⟨hfm, htb, h9, -, -, -⟩ := wrong_zero hw
    obtain ⟨⟨h0, h8⟩, k1, k12⟩ := fmd_bd hfm
    show (take (rn l k) k (evAt l k)).tries = (if (evAt l k).kd = 1 then begs l k ++ [k] else begs l k).map (tryK l (k + 1))
    have hnew := tryK_new l k
    have hsucc : ∀ a ∈ begs l k, tryK l (k + 1) a = if (tryK l k a).how ≠ 0 ∨ (evAt l k).th ≠ (tryK l k a).th then tryK l k a else updR (tryK l k a) k (evAt l k) := fun a ha => tryK_succ (begs_lt l k a ha)
    generalize evAt l k = e at *
    obtain ⟨th, kd, ad, wd, ow, er⟩ := e
    dsimp only at *
    obtain ⟨t, rfl⟩ := Int.eq_ofNat_of_zero_le h0
    have ht : t < 8 := by omega
    rw [Int.toNat_natCast] at htb h9
    generalize rn l k = s at *
    have hlen : s.tries.length = (begs l k).length := by rw [ih, List.length_map]
    -- the attempts that are not over belong to live threads
    have hcl : ∀ q a, (begs l k)[q]? = some a → (tryK l k a).how = 0 → ∃ t' : Nat, t' < 8 ∧ (tryK l k a).th = (t' : Int) ∧ liveT (s.th t') ∧ (s.th t').tr = q := fun q a hq h => by
      have hx : s.tries[q]? = some (tryK l k a) := by rw [ih, List.getElem?_map, hq]; rfl
      obtain ⟨t', h1, h2, h3⟩ := hI.cl q _ hx
      exact ⟨t', h1, h2, (h3 h).1, (h3 h).2⟩
    unfold take
    dsimp only
    rw [Int.toNat_natCast]
    by_cases c1 : kd = 1
    · subst c1
      have hh : (s.th t).how = 0 := by
        have := hI.bd.how t
        unfold tb at htb
        by_cases e0 : (s.th t).how = 0
        · exact e0
        · simp [e0] at htb
      rw [if_pos (.inr rfl), if_pos rfl, if_pos rfl]
      have htr : (tkT (s.th t) ⟨t, 1, ad, wd, ow, er⟩ s.tries.length).tr = s.tries.length := by simp [tkT]
      rw [htr, List.map_append]
      apply List.ext_getElem?
      intro q
      by_cases hq : q < s.tries.length
      · rw [get_modify_ne (by omega), List.getElem?_append_left hq, List.getElem?_append_left (by rw [List.length_map]; omega), List.getElem?_map, ih, List.getElem?_map]
        obtain ⟨a, ha⟩ : ∃ a, (begs l k)[q]? = some a := ⟨_, List.getElem?_eq_getElem (by omega)⟩
        rw [ha]
        have hs := hsucc a (List.mem_of_getElem? ha)
        simp only [Option.map_some]
        rw [hs, if_pos]
        by_cases e0 : (tryK l k a).how = 0
        · obtain ⟨t', h1, h2, h3, -⟩ := hcl q a ha e0
          refine .inr fun h => ?_
          have : t' = t := by omega
          subst this
          rcases h3 with h3 | h3 <;> omega
        · exact .inl e0
      · by_cases hq2 : q = s.tries.length
        · subst hq2
          rw [get_modify_eq, List.getElem?_append_right (Nat.le_refl _), Nat.sub_self, List.getElem?_append_right (by rw [List.length_map]; omega), List.length_map, hlen, Nat.sub_self]
          simp only [List.getElem?_cons_zero, Option.map_some, List.map_cons]
          rw [hnew]
          simp [updT, Tr.new]
        · rw [get_modify_ne (by omega), List.getElem?_eq_none (by rw [List.length_append, List.length_singleton]; omega), List.getElem?_eq_none (by rw [List.length_append, List.length_map, List.map_cons, List.length_cons]; simp; omega)]
    · rw [if_neg c1, if_neg c1]
      have hne1 : (⟨t, kd, ad, wd, ow, er⟩ : Ev).kd ≠ 1 := c1
      by_cases hl : (s.th t).how = 0
      · rw [if_neg (by simp [hl, c1])]
        rw [ih]
        apply List.map_congr_left
        intro a ha
        rw [hsucc a ha, if_pos]
        by_cases e0 : (tryK l k a).how = 0
        · obtain ⟨q, hq, rfl⟩ := List.getElem_of_mem ha
          obtain ⟨t', h1, h2, h3, -⟩ := hcl q _ (List.getElem?_eq_getElem hq) e0
          refine .inr fun h => ?_
          have : t' = t := by omega
          subst this
          rcases h3 with h3 | h3 <;> omega
        · exact .inl e0
      · rw [if_pos (.inl hl)]
        have htr : (tkT (s.th t) ⟨t, kd, ad, wd, ow, er⟩ s.tries.length).tr = (s.th t).tr := by simp [tkT, c1]
        rw [htr]
        have hlive : liveT (s.th t) := by
          have := hI.bd.how t
          unfold tb at htb
          unfold liveT
          by_cases e1 : (s.th t).how = 1
          · exact .inl e1
          · by_cases e2 : (s.th t).how = 2
            · exact .inr e2
            · exfalso; apply htb; rw [if_neg hl, if_neg e1, if_neg e2]
        obtain ⟨x, hx1, hx2, hx3⟩ := hI.op t ht hlive
        apply List.ext_getElem?
        intro q
        rw [List.getElem?_map]
        by_cases hq : q < s.tries.length
        · obtain ⟨a, ha⟩ : ∃ a, (begs l k)[q]? = some a := ⟨_, List.getElem?_eq_getElem (by omega)⟩
          have hxa : s.tries[q]? = some (tryK l k a) := by rw [ih, List.getElem?_map, ha]; rfl
          rw [ha]
          have hs := hsucc a (List.mem_of_getElem? ha)
          by_cases hqt : (s.th t).tr = q
          · subst hqt
            rw [hx1] at hxa
            obtain rfl : x = tryK l k a := by simpa using hxa
            rw [get_modify_eq, hx1]
            simp only [Option.map_some]
            rw [hs, if_neg (by rw [hx2, hx3]; simp), updR_updT _ _ _ hne1]
          · rw [get_modify_ne hqt, hxa]
            simp only [Option.map_some]
            rw [hs, if_pos]
            by_cases e0 : (tryK l k a).how = 0
            · obtain ⟨t', h1, h2, h3, h4⟩ := hcl q a ha e0
              refine .inr fun h => ?_
              have : t' = t := by omega
              subst this
              exact hqt h4
            · exact .inl e0
        · rw [List.getElem?_eq_none (by rw [List.length_modify]; omega), List.getElem?_eq_none (by omega)]
          rfl
theorem rn_trsF {l : List Ev} (hwf : ∀ e ∈ l, EvWf e) (hok : okTo l l.length) : (rn l l.length).tries = trsF l l.length := by
  rw [rn_tries hwf hok _ (Nat.le_refl _), trsF_begs]
  rfl
end Go.Proofs.Ytloiadhdkgkjkaa
/- Plain law of chapter 16: the cells that see gathers are the document's. -/
namespace Go.Proofs.Ytloiadhdkgkjkaa
set_option maxHeartbeats 4000000
set_option linter.unusedVariables false
set_option linter.unusedSimpArgs false
theorem dn_le (l : List (Nat × Int)) (n : Nat) : ∀ i, dn l n i ≤ i
  | 0 => Nat.le_refl _
  | i + 1 => by
    unfold dn
    have := dn_le l n i
    split <;> omega
theorem dn_congr {l l' : List (Nat × Int)} (n : Nat) : ∀ i, (∀ j, j ≤ i → l.getD j (0, 0) = l'.getD j (0, 0)) → dn l n i = dn l' n i
  | 0, _ => rfl
  | i + 1, h => by
    unfold dn
    rw [h (i + 1) (Nat.le_refl _), dn_congr n i (fun j hj => h j (by omega))]
theorem atW_snoc {l : List (Nat × Int)} (hl : l ≠ []) (p : Nat × Int) (n : Nat) : atW (l ++ [p]) n = if p.1 ≤ n then p.2 else atW l n := by
  obtain ⟨i, hi⟩ : ∃ i, l.length = i + 1 := ⟨l.length - 1, by have := List.length_pos_iff.2 hl; omega⟩
  unfold atW
  rw [List.length_append, List.length_singleton, Nat.add_sub_cancel, hi, Nat.add_sub_cancel]
  have hg : (l ++ [p]).getD (i + 1) (0, 0) = p := by rw [List.getD_eq_getElem?_getD, List.getElem?_append_right (by omega), hi]; simp
  have hgl : ∀ j, j ≤ i → (l ++ [p]).getD j (0, 0) = l.getD j (0, 0) := fun j hj => by rw [List.getD_eq_getElem?_getD, List.getElem?_append_left (by omega), ← List.getD_eq_getElem?_getD]
  show ((l ++ [p]).getD (if n < ((l ++ [p]).getD (i + 1) (0, 0)).1 then dn (l ++ [p]) n i else i + 1) (0, 0)).2 = _
  rw [hg]
  by_cases h : p.1 ≤ n
  · rw [if_neg (by omega), if_pos h, hg]
  · rw [if_pos (by omega), if_neg h, dn_congr n i hgl, hgl _ (dn_le l n i)]
theorem atW_one (p : Nat × Int) (n : Nat) : atW [p] n = p.2 := rfl
/-- A cell's list: not empty, from nought on, none behind m commits. -/
structure Lm (l : List (Nat × Int)) (m : Nat) : Prop where
  ne : l ≠ []
  z : (l.getD 0 (0, 0)).1 = 0
  le : ∀ p ∈ l, p.1 ≤ m
theorem cutL_cases (l : List (Nat × Int)) (m : Nat) (hl : l ≠ []) : (cutL l m = l ∧ ∀ x, l.getLast hl = x → x.1 ≠ m) ∨ (∃ p, l = cutL l m ++ [p] ∧ p.1 = m) := by
  unfold cutL
  rw [List.getLast?_eq_some_getLast hl]
  by_cases h : (l.getLast hl).1 = m
  · rw [if_pos (by simp [h])]
    exact .inr ⟨l.getLast hl, (List.dropLast_concat_getLast hl).symm, h⟩
  · rw [if_neg (by simp [h])]
    exact .inl ⟨rfl, fun x hx => by rw [← hx]; exact h⟩
theorem put_at {l : List (Nat × Int)} {m : Nat} (h : Lm l m) (hm : 0 < m) (x : Int) (n : Nat) : atW (cutL l m ++ [(m, x)]) n = if m ≤ n then x else atW l n := by
  rcases cutL_cases l m h.ne with ⟨e, _⟩ | ⟨p, e, hp⟩
  · rw [e, atW_snoc h.ne]
  · have hne : cutL l m ≠ [] := fun h0 => by
      rw [h0] at e
      have hz := h.z
      rw [e] at hz
      simp at hz
      omega
    rw [atW_snoc hne]
    by_cases hn : m ≤ n
    · rw [if_pos hn, if_pos hn]
    · rw [if_neg hn, if_neg hn]
      have := atW_snoc hne p n
      rw [← e, if_neg (by omega)] at this
      exact this.symm
theorem put_Lm {l : List (Nat × Int)} {m : Nat} (h : Lm l m) (hm : 0 < m) (x : Int) : Lm (cutL l m ++ [(m, x)]) m where
  ne := put_ne l m x
  z := head_put x h.ne h.z hm
  le := fun p hp => by
    rw [List.mem_append, List.mem_singleton] at hp
    rcases hp with hp | hp
    · rcases cutL_cases l m h.ne with ⟨e, _⟩ | ⟨q, e, _⟩
      · rw [e] at hp; exact h.le p hp
      · exact h.le p (by rw [e]; exact List.mem_append_left _ hp)
    · rw [hp]; exact Nat.le_refl _
/-- Writes laid into cells, one behind the other. -/
def apW (now : List Int) (ws : List (Int × Int)) : List Int := ws.foldl (fun c p => c.set p.1.toNat p.2) now
theorem putAll_at {m size : Nat} (hm : 0 < m) : ∀ {ws : List (Int × Int)} {c : Nat → List (Nat × Int)} {now : List Int}, now.length = size → (∀ p ∈ ws, 0 ≤ p.1 ∧ p.1 < (size : Int)) → (∀ a, a < size → Lm (c a) m) → (∀ a, a < size → atW (c a) m = now.getD a 0) →
    (∀ a, a < size → Lm (putAll c m ws a) m) ∧ (∀ a, a < size → atW (putAll c m ws a) m = (apW now ws).getD a 0) ∧ ∀ a, a < size → ∀ n, n < m → atW (putAll c m ws a) n = atW (c a) n
  | [], c, now, _, _, h2, h3 => ⟨h2, h3, fun _ _ _ _ => rfl⟩
  | p :: ws, c, now, h0, h1, h2, h3 => by
    obtain ⟨hp0, hp1⟩ := h1 p (List.mem_cons_self ..)
    have hput : ∀ a, putC c m p a = if a = p.1.toNat then cutL (c a) m ++ [(m, p.2)] else c a := fun a => rfl
    have ih := putAll_at hm (ws := ws) (c := putC c m p) (now := now.set p.1.toNat p.2) (by rw [List.length_set]; exact h0) (fun q hq => h1 q (List.mem_cons_of_mem _ hq))
      (fun a ha => by
        rw [hput]
        split
        · exact put_Lm (h2 a ha) hm _
        · exact h2 a ha)
      (fun a ha => by
        rw [hput, List.getD_eq_getElem?_getD, List.getElem?_set]
        by_cases e : a = p.1.toNat
        · rw [if_pos e, if_pos e.symm, put_at (h2 a ha) hm, if_pos (Nat.le_refl _), if_pos (by omega)]; rfl
        · rw [if_neg e, if_neg (fun h => e h.symm), ← List.getD_eq_getElem?_getD]; exact h3 a ha)
    refine ⟨ih.1, ih.2.1, fun a ha n hn => ?_⟩
    show atW (putAll (putC c m p) m ws a) n = _
    rw [ih.2.2 a ha n hn, hput]
    split
    · rw [put_at (h2 a ha) hm, if_neg (by omega)]
    · rfl
/-- The Writes of a thread in n events from a place on. -/
def wsF (l : List Ev) (th : Int) (b : Nat) : Nat → List (Int × Int)
  | 0 => []
  | n + 1 => if (evAt l (b + n)).th = th ∧ (evAt l (b + n)).kd = 3 then wsF l th b n ++ [((evAt l (b + n)).ad, (evAt l (b + n)).wd)] else wsF l th b n
theorem apF_apW (l : List Ev) (th : Int) (b : Nat) (now : List Int) : ∀ n, apF l th b now n = apW now (wsF l th b n)
  | 0 => rfl
  | n + 1 => by
    have ih := apF_apW l th b now n
    unfold apF wsF
    split
    · rw [ih]; unfold apW; rw [List.foldl_append]; rfl
    · exact ih
theorem stS_pre (first : List Int) (l : List Ev) (W : List Nat) (x : Nat) : ∀ j, j ≤ W.length → stS first l (W ++ [x]) j = stS first l W j
  | 0, _ => rfl
  | j + 1, hj => by
    have ih := stS_pre first l W x j (by omega)
    have hg : (W ++ [x]).getD j 0 = W.getD j 0 := by rw [List.getD_eq_getElem?_getD, List.getElem?_append_left (by omega), ← List.getD_eq_getElem?_getD]
    unfold stS
    rw [ih, hg]
end Go.Proofs.Ytloiadhdkgkjkaa
/- Plain law of chapter 16: what see gathers event by event is the document's: commits, cells. -/
namespace Go.Proofs.Ytloiadhdkgkjkaa
set_option maxHeartbeats 4000000
set_option linter.unusedVariables false
set_option linter.unusedSimpArgs false
theorem atW_top {l : List (Nat × Int)} (hl : l ≠ []) {n m : Nat} (h : ∀ p ∈ l, p.1 ≤ n) (hnm : n ≤ m) : atW l m = atW l n := by
  have e := List.dropLast_concat_getLast hl
  have hp := h _ (List.getLast_mem hl)
  generalize l.getLast hl = p at *
  generalize l.dropLast = d at *
  subst e
  cases d with
  | nil => rfl
  | cons x d => rw [atW_snoc (by simp), atW_snoc (by simp), if_pos (by omega), if_pos hp]
theorem vTl_same (v : Vw) (i : Nat) (e : Ev) : (vTl v i e).now = v.now ∧ (vTl v i e).cells = v.cells ∧ (vTl v i e).commits = v.commits ∧ (vTl v i e).next = v.next := by
  unfold vTl
  dsimp only
  split <;> exact ⟨rfl, rfl, rfl, rfl⟩
structure VR (first : List Int) (T : List Tr) (l : List Ev) (k : Nat) : Prop where
  cm : (vn first T l k).commits = (wrS l k).2.length
  lkB : ∀ t, t < 8 → ((wrS l k).1 t = true ↔ ((rn l k).th t).how = 2)
  lkA : ∀ t, t < 8 → liveT ((rn l k).th t) → (((vn first T l k).now t).lk = true ↔ ((rn l k).th t).how = 2)
  ws : ∀ t, t < 8 → liveT ((rn l k).th t) → ((vn first T l k).now t).ws = ((rn l k).th t).ws
  bg : ∀ t : Nat, t < 8 → liveT ((rn l k).th t) → begF l t k < k ∧ ((rn l k).th t).ws = wsF l t (begF l t k) (k - begF l t k)
  ce : ∀ n, n ≤ (vn first T l k).commits → ∀ a, a < first.length → atW ((vn first T l k).cells a) n = (stS first l (wrS l k).2 n).1.getD a 0
theorem VR.start (first : List Int) (T : List Tr) (l : List Ev) : VR first T l 0 where
  cm := rfl
  lkB := fun t _ => by simp [wrS, rn, St.zero]
  lkA := fun t _ h => by simp [rn, St.zero, liveT] at h
  ws := fun t _ h => by simp [rn, St.zero, liveT] at h
  bg := fun t _ h => by simp [rn, St.zero, liveT] at h
  ce := fun n hn a ha => by
    have hn0 : n = 0 := by simpa [vn, vw0] using hn
    subst hn0
    show atW (vw0 first |>.cells a) 0 = first.getD a 0
    simp [vw0, atW, dn]
theorem begF_succ (l : List Ev) (t : Int) (k : Nat) : begF l t (k + 1) = if (evAt l k).th = t ∧ (evAt l k).kd = 1 then k else begF l t k := rfl
theorem wsF_succ (l : List Ev) (t : Int) (b n : Nat) : wsF l t b (n + 1) = if (evAt l (b + n)).th = t ∧ (evAt l (b + n)).kd = 3 then wsF l t b n ++ [((evAt l (b + n)).ad, (evAt l (b + n)).wd)] else wsF l t b n := rfl
theorem wrS_succ (l : List Ev) (n : Nat) : wrS l (n + 1) = if (evAt l n).kd = 5 then (upd (wrS l n).1 (evAt l n).th.toNat true, (wrS l n).2) else if (evAt l n).kd = 6 ∧ (wrS l n).1 (evAt l n).th.toNat = true then (upd (wrS l n).1 (evAt l n).th.toNat false, (wrS l n).2 ++ [n]) else wrS l n := rfl
theorem stS_succ (first : List Int) (l : List Ev) (W : List Nat) (j : Nat) : (stS first l W (j + 1)).1 = apF l (evAt l (W.getD j 0)).th (begF l (evAt l (W.getD j 0)).th (W.getD j 0 + 1)) (stS first l W j).1 (W.getD j 0 - begF l (evAt l (W.getD j 0)).th (W.getD j 0 + 1)) := rfl
theorem vEv_com (T : List Tr) (v : Vw) (e : Ev) : (vEv T v e).commits = if e.kd = 6 ∧ (v.now e.th.toNat).lk = true then v.commits + 1 else v.commits := by
  unfold vEv
  dsimp only
  by_cases h1 : e.kd = 1
  · rw [if_pos h1, if_neg (by omega)]
  by_cases h2 : e.kd = 2
  · rw [if_neg h1, if_pos h2, if_neg (show ¬ (e.kd = 6 ∧ (v.now e.th.toNat).lk = true) from fun h => by have := h.1; omega)]; split <;> rfl
  by_cases h3 : e.kd = 3
  · rw [if_neg h1, if_neg h2, if_pos h3, if_neg (by omega)]
  by_cases h5 : e.kd = 5
  · rw [if_neg h1, if_neg h2, if_neg h3, if_pos h5, if_neg (by omega)]
  rw [if_neg h1, if_neg h2, if_neg h3, if_neg h5]
  split <;> rfl
theorem vEv_cells (T : List Tr) (v : Vw) (e : Ev) : (vEv T v e).cells = if e.kd = 6 ∧ (v.now e.th.toNat).lk = true then putAll v.cells (v.commits + 1) (v.now e.th.toNat).ws else v.cells := by
  unfold vEv
  dsimp only
  by_cases h1 : e.kd = 1
  · rw [if_pos h1, if_neg (by omega)]
  by_cases h2 : e.kd = 2
  · rw [if_neg h1, if_pos h2, if_neg (show ¬ (e.kd = 6 ∧ (v.now e.th.toNat).lk = true) from fun h => by have := h.1; omega)]; split <;> rfl
  by_cases h3 : e.kd = 3
  · rw [if_neg h1, if_neg h2, if_pos h3, if_neg (by omega)]
  by_cases h5 : e.kd = 5
  · rw [if_neg h1, if_neg h2, if_neg h3, if_pos h5, if_neg (by omega)]
  rw [if_neg h1, if_neg h2, if_neg h3, if_neg h5]
  split <;> rfl
theorem vEv_now (T : List Tr) (v : Vw) (e : Ev) : (vEv T v e).now e.th.toNat = if e.kd = 1 then ⟨v.next, false, []⟩ else if e.kd = 3 then ⟨(v.now e.th.toNat).tri, (v.now e.th.toNat).lk, (v.now e.th.toNat).ws ++ [(e.ad, e.wd)]⟩ else if e.kd = 5 then ⟨(v.now e.th.toNat).tri, true, (v.now e.th.toNat).ws⟩ else v.now e.th.toNat := by
  unfold vEv
  dsimp only
  by_cases h1 : e.kd = 1
  · rw [if_pos h1, if_pos h1]; exact upd_at _ _ _
  by_cases h2 : e.kd = 2
  · rw [if_neg h1, if_pos h2, if_neg h1]
    rw [if_neg (show ¬ e.kd = 3 by omega), if_neg (show ¬ e.kd = 5 by omega)]
    split <;> rfl
  by_cases h3 : e.kd = 3
  · rw [if_neg h1, if_neg h2, if_pos h3, if_neg h1, if_pos h3]; exact upd_at _ _ _
  by_cases h5 : e.kd = 5
  · rw [if_neg h1, if_neg h2, if_neg h3, if_pos h5, if_neg h1, if_neg h3, if_pos h5]; exact upd_at _ _ _
  rw [if_neg h1, if_neg h2, if_neg h3, if_neg h5, if_neg h1, if_neg h3, if_neg h5]
  split <;> rfl
theorem VR.step {first : List Int} {T : List Tr} {l : List Ev} (hwf : ∀ e ∈ l, EvWf e) (hok : okTo l l.length) (hp : idxE plainE l < 0) (hf : idxE (farE first.length) l < 0) {k : Nat} (hk : k < l.length) (h : VR first T l k) : VR first T l (k + 1) := by
  have hVI := VI.vn (T := T) hwf hok hp hf (show k ≤ l.length by omega)
  have hVJ := VJ.vn (T := T) (first := first) hwf hf (show k ≤ l.length by omega)
  have hI := inv_rn hwf (show k ≤ l.length by omega) (fun j hj => hok j (by omega))
  have hw := hok k hk
  obtain ⟨hfm, htb, h9, -, -, -⟩ := wrong_zero hw
  obtain ⟨⟨h0, h8⟩, k1, k12⟩ := fmd_bd hfm
  obtain ⟨cm, lkB, lkA, ws, bg, ce⟩ := h
  have hv : vn first T l (k + 1) = vTl (vEv T (vn first T l k) (evAt l k)) k (evAt l k) := rfl
  have hs : rn l (k + 1) = take (rn l k) k (evAt l k) := rfl
  have hW := wrS_succ l k
  have hst := stS_succ first l ((wrS l k).2 ++ [k]) (wrS l k).2.length
  have hpre := fun j hj => stS_pre first l (wrS l k).2 k j hj
  have hgk : ((wrS l k).2 ++ [k]).getD (wrS l k).2.length 0 = k := by rw [List.getD_eq_getElem?_getD, List.getElem?_append_right (Nat.le_refl _)]; simp
  rw [hgk] at hst
  have hbs := fun t : Int => begF_succ l t k
  have hws := fun (t : Int) (b : Nat) (hb : b ≤ k) => (show wsF l t b (k + 1 - b) = if (evAt l k).th = t ∧ (evAt l k).kd = 3 then wsF l t b (k - b) ++ [((evAt l k).ad, (evAt l k).wd)] else wsF l t b (k - b) from by
    have := wsF_succ l t b (k - b)
    rw [show b + (k - b) = k by omega] at this
    rw [show k + 1 - b = k - b + 1 by omega]
    exact this)
  generalize evAt l k = e at *
  obtain ⟨th, kd, ad, wd, ow, er⟩ := e
  dsimp only at *
  obtain ⟨t, rfl⟩ := Int.eq_ofNat_of_zero_le h0
  obtain ⟨c, rfl⟩ := Int.eq_ofNat_of_zero_le (show 0 ≤ kd by omega)
  have ht : t < 8 := by omega
  have hc : c < 13 := by omega
  rw [Int.toNat_natCast] at htb hW
  obtain ⟨tn, tcl, tcm, -⟩ := vTl_same (vEv T (vn first T l k) ⟨t, c, ad, wd, ow, er⟩) k ⟨t, c, ad, wd, ow, er⟩
  rw [← hv] at tn tcl tcm
  have hth := fun j => take_th (rn l k) k ⟨t, c, ad, wd, ow, er⟩ j
  simp only [Int.toNat_natCast] at hth
  rw [← hs] at hth
  have e1 : ((c : Int) = 1) = (c = 1) := by simp; omega
  have e2 : ((c : Int) = 2) = (c = 2) := by simp; omega
  have e3 : ((c : Int) = 3) = (c = 3) := by simp; omega
  have e5 : ((c : Int) = 5) = (c = 5) := by simp; omega
  have e6 : ((c : Int) = 6) = (c = 6) := by simp; omega
  simp only [e1] at hbs
  simp only [e3] at hws
  simp only [e5, e6] at hW
  have hev : vEv T (vn first T l k) ⟨t, c, ad, wd, ow, er⟩ = vEv T (vn first T l k) ⟨t, c, ad, wd, ow, er⟩ := rfl
  have hnj : ∀ j, j ≠ t → (vEv T (vn first T l k) ⟨t, c, ad, wd, ow, er⟩).now j = (vn first T l k).now j := fun j hj => by
    unfold vEv
    dsimp only
    rw [Int.toNat_natCast]
    repeat' split
    all_goals first | rfl | exact upd_ne _ _ hj
  have hcs := tb_ok (hI.bd.how t) hc htb
  have vc := vEv_com T (vn first T l k) ⟨t, c, ad, wd, ow, er⟩
  have vce := vEv_cells T (vn first T l k) ⟨t, c, ad, wd, ow, er⟩
  have vno := vEv_now T (vn first T l k) ⟨t, c, ad, wd, ow, er⟩
  dsimp only at vc vce vno
  rw [Int.toNat_natCast] at vc vce vno
  simp only [e1, e3, e5, e6] at vc vce vno
  -- a writing commit
  have q1 : (c = 6 ∧ ((vn first T l k).now t).lk = true) = (c = 6 ∧ ((rn l k).th t).how = 2) := propext (by
    constructor
    · rintro ⟨h6, h⟩
      refine ⟨h6, (lkA t ht ?_).1 h⟩
      rcases hcs with ⟨h1, h2⟩ | ⟨h1, _⟩ | ⟨h1, _⟩
      · omega
      · exact .inl h1
      · exact .inr h1
    · rintro ⟨h6, h⟩
      exact ⟨h6, (lkA t ht (.inr h)).2 h⟩)
  have q2 : (c = 6 ∧ (wrS l k).1 t = true) = (c = 6 ∧ ((rn l k).th t).how = 2) := propext (and_congr Iff.rfl (lkB t ht))
  simp only [q1] at vc vce
  simp only [q2] at hW
  have hown := hth t
  rw [if_pos rfl] at hown
  have hoth : ∀ j, j ≠ t → (rn l (k + 1)).th j = (rn l k).th j := fun j hj => by rw [hth j, if_neg hj]
  have hhow : ((rn l (k + 1)).th t).how = tb ((rn l k).th t).how (c : Int) - 1 := by rw [hown]; rfl
  have hwst : ((rn l (k + 1)).th t).ws = if c = 1 then [] else if c = 3 then ((rn l k).th t).ws ++ [(ad, wd)] else ((rn l k).th t).ws := by rw [hown]; simp only [tkT, e1, e3]
  have hlv1 : c ≠ 1 → liveT ((rn l (k + 1)).th t) → liveT ((rn l k).th t) := fun hc1 hl => by
    unfold liveT at hl ⊢
    rw [hhow] at hl
    rcases hcs with ⟨h1, h2⟩ | ⟨h1, _⟩ | ⟨h1, _⟩
    · rw [h1] at hl
      rcases h2 with rfl | rfl | rfl | rfl | rfl <;> simp [tb] at hl hc1
    · exact .inl h1
    · exact .inr h1
  constructor
  · rw [tcm, vc, hW]
    by_cases h5 : c = 5
    · rw [if_pos h5, if_neg (by omega)]; exact cm
    · rw [if_neg h5]
      split
      · rw [List.length_append, cm]; rfl
      · exact cm
  · intro j hj
    by_cases hjt : j = t
    · subst hjt
      rw [hW, hhow]
      have hb := lkB j ht
      rcases hcs with ⟨h1, h2⟩ | ⟨h1, h2⟩ | ⟨h1, h2⟩
      · rw [h1] at hb ⊢
        rcases h2 with rfl | rfl | rfl | rfl | rfl <;> simp [tb] at hb ⊢ <;> exact hb
      · rw [h1] at hb ⊢
        rcases h2 with rfl | rfl | rfl | rfl | rfl | rfl | rfl | rfl <;> simp [tb, upd_at] at hb ⊢ <;> exact hb
      · subst h2
        rw [h1] at hb ⊢
        simp [tb, upd_at]
    · rw [hoth j hjt, hW, ← lkB j hj]
      repeat' split
      all_goals first | rfl | (dsimp only; rw [upd_ne _ _ hjt])
  · intro j hj hl
    by_cases hjt : j = t
    · subst hjt
      rw [tn, vno, hhow]
      by_cases c1 : c = 1
      · subst c1
        rw [if_pos rfl]
        rcases hcs with ⟨h1, h2⟩ | ⟨h1, h2⟩ | ⟨h1, h2⟩
        · rw [h1]; simp [tb]
        · omega
        · omega
      · have hla := lkA j ht (hlv1 c1 hl)
        rw [if_neg c1]
        unfold liveT at hl
        rw [hhow] at hl
        rcases hcs with ⟨h1, h2⟩ | ⟨h1, h2⟩ | ⟨h1, h2⟩
        · rw [h1] at hl
          rcases h2 with rfl | rfl | rfl | rfl | rfl <;> simp [tb] at hl c1
        · rw [h1] at hla ⊢
          rcases h2 with rfl | rfl | rfl | rfl | rfl | rfl | rfl | rfl <;> simp [tb] at hla ⊢ <;> exact hla
        · subst h2
          simp [h1, tb] at hl
    · rw [hoth j hjt] at hl ⊢
      rw [tn, hnj j hjt]
      exact lkA j hj hl
  · intro j hj hl
    by_cases hjt : j = t
    · subst hjt
      rw [tn, vno, hwst]
      by_cases c1 : c = 1
      · rw [if_pos c1, if_pos c1]
      · rw [if_neg c1, if_neg c1]
        have hw1 := ws j ht (hlv1 c1 hl)
        by_cases c3 : c = 3
        · rw [if_pos c3, if_pos c3, ← hw1]
        · rw [if_neg c3, if_neg c3, ← hw1]
          split <;> rfl
    · rw [hoth j hjt] at hl ⊢
      rw [tn, hnj j hjt]
      exact ws j hj hl
  · intro j hj hl
    by_cases hjt : j = t
    · subst hjt
      rw [hbs, hwst]
      by_cases c1 : c = 1
      · subst c1
        rw [if_pos ⟨rfl, rfl⟩, if_pos rfl]
        refine ⟨Nat.lt_succ_self _, ?_⟩
        have := hws j k (Nat.le_refl _)
        rw [this, if_neg (by omega), Nat.sub_self]
        rfl
      · rw [if_neg (fun h => c1 h.2), if_neg c1]
        obtain ⟨b1, b2⟩ := bg j ht (hlv1 c1 hl)
        refine ⟨by omega, ?_⟩
        rw [hws _ _ (by omega), ← b2]
        by_cases c3 : c = 3
        · rw [if_pos c3, if_pos ⟨rfl, c3⟩]
        · rw [if_neg c3, if_neg (fun h => c3 h.2)]
    · have hjt' : ¬ (t : Int) = (j : Int) := fun h => hjt (by omega)
      rw [hoth j hjt] at hl ⊢
      rw [hbs, if_neg (fun h => hjt' h.1)]
      obtain ⟨b1, b2⟩ := bg j hj hl
      refine ⟨by omega, ?_⟩
      rw [hws _ _ (by omega), if_neg (fun h => hjt' h.1)]
      exact b2
  · intro n hn a ha
    rw [tcm, vc] at hn
    rw [tcl, vce, hW]
    by_cases h5 : c = 5
    · rw [if_pos h5, if_neg (by omega)]
      rw [if_neg (by omega)] at hn
      exact ce n hn a ha
    · rw [if_neg h5]
      by_cases hcm : c = 6 ∧ ((rn l k).th t).how = 2
      · rw [if_pos hcm] at hn
        rw [if_pos hcm, if_pos hcm]
        dsimp only
        have hLv : liveT ((rn l k).th t) := .inr hcm.2
        have hLm : ∀ a, a < first.length → Lm ((vn first T l k).cells a) ((vn first T l k).commits + 1) := fun a ha => ⟨(hVI.inc a ha).ne, (hVJ.z a ha).2, fun p hp => Nat.le_succ_of_le ((hVI.inc a ha).le p hp)⟩
        have hnow := (stS_len first l (wrS l k).2 (wrS l k).2.length).1
        have P := putAll_at (m := (vn first T l k).commits + 1) (Nat.succ_pos _) (ws := ((vn first T l k).now t).ws) (c := (vn first T l k).cells) hnow (hVI.ws t ht).1 hLm (fun a ha => by
          rw [atW_top (hVI.inc a ha).ne (hVI.inc a ha).le (Nat.le_succ _), ce _ (Nat.le_refl _) a ha, cm])
        by_cases hnm : n ≤ (vn first T l k).commits
        · rw [P.2.2 a ha n (by omega), hpre n (by rw [← cm]; exact hnm)]
          exact ce n hnm a ha
        · obtain rfl : n = (vn first T l k).commits + 1 := by omega
          rw [P.2.1 a ha]
          have hcm' := cm
          rw [hcm', hst, hpre _ (Nat.le_refl _), apF_apW, ws t ht hLv, (bg t ht hLv).2, hbs, if_neg (by omega)]
      · rw [if_neg hcm] at hn
        rw [if_neg hcm, if_neg hcm]
        exact ce n hn a ha
theorem VR.all {first : List Int} {T : List Tr} {l : List Ev} (hwf : ∀ e ∈ l, EvWf e) (hok : okTo l l.length) (hp : idxE plainE l < 0) (hf : idxE (farE first.length) l < 0) : ∀ k, k ≤ l.length → VR first T l k
  | 0, _ => VR.start first T l
  | k + 1, hk => (VR.all hwf hok hp hf k (by omega)).step hwf hok hp hf (by omega)
end Go.Proofs.Ytloiadhdkgkjkaa
