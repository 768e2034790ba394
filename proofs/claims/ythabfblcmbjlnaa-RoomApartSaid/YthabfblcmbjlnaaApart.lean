/- RoomApart: the law's walk. -/
import Derived.Test.YthabfblcmbjlnaaApartMem
import Derived.Test.YthabfblcmbjlnaaMixH
import Derived.Test.YthabfblcmbjlnaaStep67
import Derived.Deep.DeepCutAuto
import Derived.IntWalk
import Derived.Deep.LoopGhost
namespace Go.Proofs.Ythabfblcmbjlnaa
open Go.RowKit
set_option maxHeartbeats 40000000
set_option linter.unusedVariables false

set_option maxRecDepth 20000 in
theorem roomApart_walk {W : World} (x : Int) (hx : (Lit.int .u64 x).wf = true) (y : Int) (hy : (Lit.int .u64 y).wf = true) {A : Option Addr} {n c : Nat} (h2 : RowsIn W A n c [.u64, .i64]) (W0 : World) (e0 : W0 = W := by rfl) :
    Calls Try.prog 4 #[.int .u64 x, .int .u64 y, .slice A n c] W fun e w' => e = .returned (.bool true) ∧ Below W.heap.size W w' := by
  obtain ⟨x0, x1⟩ := bd_u64 hx
  obtain ⟨y0, y1⟩ := bd_u64 hy
  have hn : n * 16 ≤ 140737488351232 := by have := h2.len; simpa using this
  have H2 := Lib.hid h2
  clear h2 hx hy
  go_enter Try.func4, Try.ntmps4
  go_wp2_with fail
  generalize hfr : 18 + x % 20 = fr
  have f0 : 18 ≤ fr := by omega
  have f1 : fr ≤ 37 := by omega
  generalize hcn : y % 200 = cn
  have c0 : 0 ≤ cn := by omega
  have c1 : cn ≤ 199 := by omega
  clear hfr hcn x0 x1 y0 y1
  refine (over_b 300 (by omega) _).mono ?_
  rintro e w1 ⟨T, b, g, cap, rfl, hw1, hb1, hT, hb, hg⟩
  obtain ⟨s1, e1, e2, e3, e4, e5⟩ := rLay_live (s := ⟨List.replicate 300 0, -1, 0, 0⟩) (m := 1) (x := fr) (y := fr + cn) ⟨by simp, by simp⟩ (by omega) (by simp) (by simp) (by omega)
  have hf1 : Fits ⟨List.replicate 300 0, -1, 0, 0⟩ := ⟨fun x hx => by rw [List.eq_of_mem_replicate hx]; omega, by simp, by simp⟩
  have hw1' := Lib.hid hw1
  have e5' := Lib.hid e5
  have e4' := Lib.hid e4
  have e1' := Lib.hid e1
  clear hw1 e5 e4 e1 e3
  go_wp2_with (first
    | (go_at_call 11; refine (lay_b hw1'.out hf1 (by omega) (by omega) (by omega) (by omega) (by omega) (Mod.refl _ _ _)).mono ?_; rintro e w2 ⟨er, sn, q1, hf2, rfl, hw2, hm2⟩; obtain ⟨rfl, rfl⟩ : 0 = er ∧ s1 = sn := (by have := e1'.out.symm.trans q1.out; simpa using this); have hw2' := Lib.hid hw2; clear hw2 q1)
    | (go_at_call 10; refine (num_c _ _).mono ?_; rintro e _ ⟨rfl, rfl⟩))
  have hr0 : Hid (Rm s1.W fr (fr + cn) [] fun _ => []) := Lib.hid (Rm.start (e4'.out.trans (by simp)) (by omega) (by omega) (by omega) (fun j => by rw [e5'.out]; split; rfl; split; rfl; split; rfl; rw [List.getD_eq_getElem?_getD, List.getElem?_replicate]; split <;> rfl))
  have hs2 := hm2.size
  have hp0 := Lib.hid (Lp.start (B := W.heap.size) hw2'.out hf2 (by omega) (by omega) (by omega) (by have := hb1.size; omega))
  have hbel0 := Lib.hid ((hb1.trans (hm2.below hb hg hb1.size)).alloc (by have := hb1.size; omega) (.cells (Array.replicate 17 (.slice none 0 0)) 43))
  generalize hbk : w2.heap.size = bk at *
  clear hbk hw2' e4' e5' e1' hm2 hb1 hs2 hf1 hf2
  have hl0 := Lib.hid e2
  clear e2
  go_loopg [8, 10] n (fun gk c8 c10 wr => ∃ (k : Nat) (s : St) (out : List (Int × Int)) (cs : Array Value) (back : Nat → List Int), gk + k = n ∧ c10 = .int .i64 (k : Int) ∧ Rd W wr k n fr (fr + cn) T b g cap bk c8 s out cs back (100 + 20 * k) k)
  case atStart => exact ⟨0, s1, [], _, _, rfl, rfl, hp0.out, hr0.out, ⟨by have := hl0.out.1; omega, hl0.out.2⟩, hbel0.out, by simp, by simp⟩
  case round =>
    obtain ⟨k, s, out, cs, back, hk, rfl, hrd⟩ := hrel
    obtain ⟨Ao, co, rfl, hoc, hon⟩ := hrd.lp.outs.shape
    have HR := Lib.hid hrd
    have ol := hrd.ol
    clear hrd hp0 hr0 hbel0 hl0
    rcases Nat.lt_or_ge k n with hlt | hge
    · obtain ⟨ad, rfl⟩ : ∃ ad, A = some ad := by
        cases A with
        | none => have := (H2.out.nil rfl).1; omega
        | some ad => exact ⟨ad, rfl⟩
      obtain ⟨zs, a0, a1⟩ := H2.out.cell ad rfl k hlt 0 _ rfl
      obtain ⟨yb, b0, b1⟩ := H2.out.cell ad rfl k hlt 1 _ rfl
      rw [addr_flat (by omega)] at b0
      obtain ⟨z0, z1⟩ := bd_u64 a1
      obtain ⟨y0, y1⟩ := bd_i64 b1
      simp only [List.length_cons, List.length_nil, Nat.zero_add, Nat.reduceAdd, Nat.add_zero] at a0 b0
      have G0 := Lib.hid a0
      obtain ⟨n_, hn_⟩ : ∃ n_ : Nat, n_ = n := ⟨n, rfl⟩
      have a0 := keepCell HR.out.bel (Nat.le_refl _) a0
      have b0 := keepCell HR.out.bel (Nat.le_refl _) b0
      clear a1 b1
      have hk' : (k : Int) < n := by omega
      go_upto_region 12 with (fail)
      go_cut [54] (fun c54 wx => ∃ bb : Bool, c54 = .bool bb ∧ (bb = true → 0 < out.length ∧ 0 < yb) ∧ wx = wr)
      case first =>
        have h2' : (out.length : Int) ≤ 0 ∨ ((0 : Int) < out.length ∧ yb ≤ 0) ∨ ((0 : Int) < out.length ∧ 0 < yb) := by omega
        rcases h2' with h2' | ⟨h2', h3'⟩ | ⟨h2', h3'⟩
        all_goals go_wp2
        all_goals go_meet
        · exact ⟨false, rfl, fun h => (Bool.false_ne_true h).elim, rfl⟩
        · exact ⟨false, congrArg Value.bool (decide_eq_false (by omega)), fun h => (Bool.false_ne_true h).elim, rfl⟩
        · exact ⟨true, rfl, fun _ => ⟨by omega, h3'⟩, rfl⟩
      case rest =>
      obtain ⟨bb, rfl, hbb, rfl⟩ := hcut
      obtain ⟨wr, rfl⟩ : ∃ u : World, u = wc := ⟨_, rfl⟩
      go_upto_if 54 with (fail)
      go_cut [8] (fun c8 wx => ∃ s6 out5 cs9 back9 A5 c5, c8 = .slice A5 out5.length c5 ∧ Rd W wx k n_ fr (fr + cn) T b g cap bk (.slice A5 out5.length c5) s6 out5 cs9 back9 (103 + 20 * k) (k + 1) ∧ out5.length ≤ k)
      case first => as_aux_lemma =>
       cases bb with
       | false =>
        go_wp2
        go_meet
        exact ⟨s, out, cs, back, Ao, co, rfl, ⟨HR.out.lp, HR.out.rm, HR.out.live.weak (by omega), HR.out.bel, by omega, fun y => by have := HR.out.bl y; omega⟩, ol⟩
       | true =>
        obtain ⟨hp1, hp2⟩ := hbb rfl
        clear hbb
        obtain ⟨go, off, co', hv, hgo, hgo2, hco, hcell⟩ := HR.out.lp.outs.at_ hp1
        injection hv with hv1 hv2 hv3
        subst hv1
        subst hv3
        obtain ⟨kk, hkk⟩ : ∃ kk : Nat, (kk : Int) = yb % out.length := ⟨(yb % out.length).toNat, by have := Int.emod_nonneg yb (show (out.length : Int) ≠ 0 by omega); omega⟩
        have hkl : kk < out.length := by have := Int.emod_lt_of_pos yb (show 0 < (out.length : Int) by omega); omega
        obtain ⟨⟨pa, pz⟩, hpp⟩ : ∃ p, out[kk]? = some p := ⟨_, List.getElem?_eq_getElem hkl⟩
        obtain ⟨i1, i2, i3, i4⟩ := HR.out.rm.outIn (pa, pz) (List.mem_of_getElem? hpp)
        obtain ⟨zz, rfl⟩ : ∃ zz : Nat, pz = (zz : Int) := ⟨pz.toNat, by simp only at i2; omega⟩
        simp only at i1 i2 i3 i4
        have i5 := HR.out.rm.nx1
        obtain ⟨q1, q2⟩ := P2_get out kk _ hpp
        have d0 := (hcell (kk * 2) (by omega)).1.trans q1
        have d1 := (hcell (kk * 2 + 1) (by omega)).1.trans q2
        rw [← Nat.add_assoc] at d1
        simp only at d0 d1
        have Hkk := hkk.symm
        have hco1 : (kk : Int) + 1 ≤ co := by omega
        have hlm := HR.out.lp.outs.1
        have hout : Hid (out = out.take kk ++ (pa, (zz : Int)) :: out.drop (kk + 1)) := by
          refine Lib.hid ?_
          rw [← List.getElem?_eq_some_iff.1 hpp |>.2]
          simp
        have hpz : (0 : Int) < out.length := by omega
        have hkz : (kk : Int) < out.length := by omega
        have hkc : (kk : Int) ≤ co := by omega
        have hkc2 : (kk : Int) + 1 ≤ out.length := by omega
        have hkc3 : (out.length : Int) ≤ co := by omega
        clear hcell q1 q2 hkk hpp i5 hlm hp1
        go_wp2_with fail
        rcases Nat.lt_or_ge (kk + 1) co with hcc | hcc
        case' inl =>
          have hcc' : (kk : Int) + 1 < co := by omega
          have hcc2 : (co = kk + 1) = False := eq_false (by omega)
        case' inr =>
          obtain rfl : co = kk + 1 := by omega
          have hkc4 : ((kk : Int) ≤ (kk : Int) + 1) = True := eq_true (by omega)
        all_goals
          have hw1 : IntKind.i64.wrap ((kk : Int) + 1) = (kk : Int) + 1 := IntWalk.i64_in _ (by omega)
          have hw2 : ((kk : Int) + 1).toNat = kk + 1 := by omega
          have hw3 : (0 : Int) ≤ (kk : Int) + 1 := by omega
          refine wp_region_mixH (fun _ => True) [0, 0, 0, 0, 0, 0, 0, 0, 2, 0] (List.range 10) (by kernel_rfl) (by kernel_rfl) (fun _ _ h => h) trivial ?_
          repeat ((first | refine wpMixH_pure rfl rfl (fun K hK => ?_) | refine wpMixH_loc rfl rfl (fun K hK => ?_) | refine wpMixH_any rfl rfl (fun K hK => ?_)); go_simp; refine hK _ _ ?_; clear hK K)
        all_goals
          obtain ⟨i2, hi2, hz20, hz21, hz22⟩ := info_parts p2_info
          refine wpMixH_loud rfl rfl (fun n K hK => ?_)
          have HL0 := Lib.hid ((HR.out.lp.alloc (.cells #[.int .u64 pa, .int .u64 zz] 46)).drewN (1 + n))
        case' inl =>
          refine wpList_app _ rfl (.tmp 69) (.tmp 73) 42 rfl 46 i2 _ 2 16 Try.underlying42 hi2 hz20 hz21 hz22 rfl (by decide) W.heap.size (.slice (some ⟨go, off, none⟩) kk kk) kk ((P2 out).take (kk * 2)) rfl (HL0.out.outs.cut (by omega) (Nat.le_refl _) (by omega)) _ (out.length - (kk + 1)) ((P2 out).drop ((kk + 1) * 2)) rfl
            ((HL0.out.outs.behind (m := kk + 1) (by omega) (by omega)).src (fun u hu => P2_one out u (List.mem_of_mem_drop hu))) (by unfold maxLen; omega) (by omega) (HL0.out.lB) ?_
        case' inr =>
          refine wpList_app _ rfl (.tmp 69) (.tmp 73) 42 rfl 46 i2 _ 2 16 Try.underlying42 hi2 hz20 hz21 hz22 rfl (by decide) W.heap.size (.slice (some ⟨go, off, none⟩) kk kk) kk ((P2 out).take (kk * 2)) rfl (HL0.out.outs.cut (by omega) (Nat.le_refl _) (by omega)) _ (out.length - (kk + 1)) ((P2 out).drop ((kk + 1) * 2)) rfl
            (by
              have e1 : out.length - (kk + 1) = 0 := by omega
              have e2 : (P2 out).drop ((kk + 1) * 2) = [] := List.drop_eq_nil_of_le (by rw [P2_length]; omega)
              rw [e1, e2]
              exact .inr ⟨_, _, rfl, rfl, (fun j u h => by cases h), fun u h => by cases h⟩) (by unfold maxLen; omega) (by omega) (HL0.out.lB) ?_
        all_goals
          intro v5 w5 hrow5 hgr5 hown5
          have hgr6 : ((wr.alloc (.cells #[.int .u64 pa, .int .u64 zz] 46)).drewN (1 + n)).grownBy w5 (some go) := ⟨hgr5.os, hgr5.tape, hgr5.output, hgr5.size, hgr5.block⟩
          have HL5 := Lib.hid (Lp.outs_ HL0.out (cut_out (by omega) hrow5) hgr6)
          have hpb := Lib.hid (Blk.grown (g := wr.heap.size) (cs := #[.int .u64 pa, .int .u64 zz]) (t := 46) ((Blk.new wr _ _).drewNs (1 + n)) hgr6 (by intro h; injection h with h; omega))
          obtain ⟨i6, hi6, hz60, hz61, hz62⟩ := info_parts u1_info
          obtain ⟨out5, hout5⟩ : ∃ o, o = out.take kk ++ out.drop (kk + 1) := ⟨_, rfl⟩
          have hout6 := Lib.hid hout5
          rw [← hout5] at HL5
          clear hout5 hown5 hrow5 HL0 hcc hco
          obtain ⟨A5, c5, rfl, _, _⟩ := HL5.out.outs.shape
          have hb5 : Hid (Below W.heap.size W w5) := Lib.hid (Below.grown ((below_drewNs HR.out.bel (1 + n)).alloc (by have := HR.out.lp.lB; simpa using this) (.cells #[.int .u64 pa, .int .u64 zz] 46)) ⟨hgr6.os, hgr6.tape, hgr6.output, hgr6.size, hgr6.block⟩ (by have := HR.out.bel.size; simp; omega) (fun k' hk' => by injection hk' with hk'; omega))
          clear hgr5 hgr6
          generalize wr.heap.size = pb at *
          go_wp2
          refine hK _ _ (fun _ => trivial) ?_; clear hK K
          repeat ((first | refine wpMixH_pure rfl rfl (fun K hK => ?_) | refine wpMixH_loc rfl rfl (fun K hK => ?_) | refine wpMixH_any rfl rfl (fun K hK => ?_)); go_simp; refine hK _ _ ?_; clear hK K)
          refine wpMixH_nil (fun n => ?_)
          have c50 := (hpb.out.cell 0)
          have c51 := (hpb.out.cell 1)
          simp only [List.getElem?_toArray, List.getElem?_cons_zero, List.getElem?_cons_succ] at c50 c51
          go_wp2_with (first
            | (go_at_call 12; refine (give_l (HL5.out.drewN _) HR.out.live (by omega) HR.out.rm.len (p := pa) (z := zz) (by omega) (by have := HR.out.rm.nx1; have := HR.out.rm.to0; omega) (by omega) (by omega)).mono ?_; rintro e w6 ⟨s6, rfl, HL6', hW6, hl6, hb6, hm6⟩; have HL6 := Lib.hid HL6'; have hW6' := Lib.hid hW6; clear HL6' hW6)
            | (go_at_call 10; refine (num_c _ _).mono ?_; rintro e _ ⟨rfl, rfl⟩))
          obtain ⟨cur5, hcur5, _⟩ := HL5.out.tx.2.2
          have hpb6 : Blk w6 pb 46 #[.int .u64 pa, .int .u64 zz] := hm6.blk (hpb.out.drewNs _) (Blk.ne_ hpb.out HL5.out.tx.2.1 (by decide)) (Blk.ne_ hpb.out hcur5 (by decide))
          have z17 : zz < 17 := by omega
          obtain ⟨vz, hvz, hrz, hrg⟩ := HL6.out.row zz z17
          obtain ⟨Az, cz, rfl, hcz, hnz⟩ := hrz.shape
          have hvz := Lib.hid hvz
          have hrz := Lib.hid hrz
          have hpb6 := Lib.hid hpb6
          have e60 := hpb6.out.cell 0
          have e61 := hpb6.out.cell 1
          have e62 := (HL6.out.box.cell zz).trans hvz.out
          simp only [List.getElem?_toArray, List.getElem?_cons_zero, List.getElem?_cons_succ] at e60 e61
          have f61 := Lib.hid e61
          have f62 := Lib.hid e62
          have z17' : (zz : Int) < 17 := by omega
          have bz6 := HR.out.bl zz
          have hB6 := HL6.out.lB
          clear hrg hcz hnz c50 c51
          refine wp_region_mixH (fun W' => W'.cell? ⟨pb, 1, none⟩ = some (.int .u64 zz) ∧ W'.cell? ⟨bk, zz, none⟩ = some (.slice Az (back zz).length cz)) [3, 0, 3, 0, 3, 0, 3, 1, 2, 2, 3, 2] (List.range 12) (by kernel_rfl) (by kernel_rfl) (fun _ _ h => h) ⟨e61, e62⟩ ?_
          repeat (first | ((first | refine wpMixH_pure rfl rfl (fun K hK => ?_) | refine wpMixH_loc rfl rfl (fun K hK => ?_) | refine wpMixH_any rfl rfl (fun K hK => ?_)); go_simp; refine hK _ _ ?_; clear hK K) | (refine wpMixH_any rfl rfl (fun K hK => ?_); rw [if_pos (by go_simp)]; apply Exists.intro; refine And.intro (fun w2 hS2 => ?_) (hK _ _ ?_); (focus (obtain ⟨hs1, hs2⟩ := hS2; go_simp; rfl)); clear hK K))
          refine wpMixH_loud rfl rfl (fun n K hK => ?_)
          go_wp2
          refine hK _ _ (fun _ => ⟨cell_alloc_ f61.out, cell_alloc_ f62.out⟩) ?_; clear hK K
          have HL7 := Lib.hid ((HL6.out.drewN (1 + n)).alloc (.cells #[.int .u64 pa] 31))
          have hb7 := Lib.hid ((below_drewNs ((below_drewNs hb5.out _).trans hb6) (1 + n)).alloc (by simpa using HL6.out.lB) (.cells #[.int .u64 pa] 31))
          have hrz7 := Lib.hid (Rowv.keepLt (w := w6.drewN (1 + n)) (w' := (w6.drewN (1 + n)).alloc (.cells #[.int .u64 pa] 31)) hrz.out (fun k _ hk _ => Below.heap_alloc _ _ k hk))
          have src7 := Lib.hid (Src.lit (w6.drewN (1 + n)) (vs := [.int .u64 pa]) (e := 31) (m := 1) (size := 1) rfl (by simp [Value.oneCell']) 1)
          have g61 := Lib.hid (cell_alloc_ (w := w6.drewN (1 + n)) (o := .cells #[.int .u64 pa] 31) f61.out)
          have g62 := Lib.hid (cell_alloc_ (w := w6.drewN (1 + n)) (o := .cells #[.int .u64 pa] 31) f62.out)
          have hne1 : some pb ≠ Value.ownBlock (.slice Az (back zz).length cz) := (hrz.out.blk_ne hpb6.out (by decide)).symm
          have hne2 : some bk ≠ Value.ownBlock (.slice Az (back zz).length cz) := (hrz.out.blk_ne HL6.out.box (by decide)).symm
          repeat (first | ((first | refine wpMixH_pure rfl rfl (fun K hK => ?_) | refine wpMixH_loc rfl rfl (fun K hK => ?_) | refine wpMixH_any rfl rfl (fun K hK => ?_)); go_simp; refine hK _ _ ?_; clear hK K) | (refine wpMixH_any rfl rfl (fun K hK => ?_); rw [if_pos (by go_simp)]; apply Exists.intro; refine And.intro (fun w2 hS2 => ?_) (hK _ _ ?_); (focus (obtain ⟨hs1, hs2⟩ := hS2; go_simp; rfl)); clear hK K))
          refine wpMixH_loud rfl rfl (fun n K hK => ?_)
          refine wpList_app _ rfl (.tmp 89) (.tmp 92) 22 rfl 31 i6 (.int .u64 0) 1 8 Try.underlying22 hi6 hz60 hz61 hz62 rfl (by decide) W.heap.size (.slice Az (back zz).length cz) (back zz).length (W1 (back zz)) rfl hrz7.out _ 1 [.int .u64 pa] rfl src7.out (by unfold maxLen; omega) (by omega) HL7.out.lB ?_
          intro v8 w8 hrow8 hgr8 hown8
          have hgr8' := Lib.hid (grown_undrew hgr8)
          have hrow8' : Hid (Rowv w8 W.heap.size 31 1 v8 ((back zz).length + 1) (W1 (back zz ++ [pa]))) := Lib.hid (by rw [show W1 (back zz ++ [pa]) = W1 (back zz) ++ [.int .u64 pa] by simp [W1]]; simpa using hrow8)
          have hown8' := Lib.hid hown8
          clear hrow8 hgr8 hown8
          obtain ⟨A8, c8, rfl, _, _⟩ := hrow8'.out.shape
          have hbk8 := Lib.hid (HL7.out.box.grown hgr8'.out hne2)
          have z8 := hbk8.out.frozen zz
          have k61 := grown_cell hgr8'.out hne1 g61.out
          have k62 := grown_cell hgr8'.out hne2 g62.out
          go_wp2
          refine hK _ _ (fun _ => ⟨k61, k62⟩) ?_; clear hK K
          repeat (first | ((first | refine wpMixH_pure rfl rfl (fun K hK => ?_) | refine wpMixH_loc rfl rfl (fun K hK => ?_) | refine wpMixH_any rfl rfl (fun K hK => ?_)); go_simp; refine hK _ _ ?_; clear hK K) | (refine wpMixH_any rfl rfl (fun K hK => ?_); rw [if_pos (by go_simp)]; apply Exists.intro; refine And.intro (fun w2 hS2 => ?_) (hK _ _ ?_); (focus (obtain ⟨hs1, hs2⟩ := hS2; go_simp; rfl)); clear hK K))
          refine wpMixH_loud rfl rfl (fun n8 K hK => ?_)
          go_wp2
          refine hK _ _ (fun h => (Bool.false_ne_true ((Eq.symm (by kernel_rfl)).trans h)).elim) ?_; clear hK K
          refine wpMixH_nil (fun n9 => ?_)
          have HL9 := Lib.hid (Lp.backs (w' := w8.drewN n8) (l := back zz ++ [pa]) HL7.out z17 hvz.out (show Rowv w8 W.heap.size 31 1 (.slice A8 ((back zz).length + 1) c8) (back zz ++ [pa]).length (W1 (back zz ++ [pa])) by simpa using hrow8'.out) (grown_drew_ hgr8'.out) hown8'.out)
          obtain ⟨cs9, hcs9⟩ : ∃ u, u = cs.setIfInBounds zz (.slice A8 ((back zz).length + 1) c8) := ⟨_, rfl⟩
          obtain ⟨back9, hback9⟩ : ∃ u : Nat → List Int, u = fun y => if y = zz then back zz ++ [pa] else back y := ⟨_, rfl⟩
          rw [← hcs9, ← hback9] at HL9
          have HR9 : Hid (Rd W (((w8.drewN n8).setCell ⟨bk, zz, none⟩ (.slice A8 ((back zz).length + 1) c8)).drewN n9) k n_ fr (fr + cn) T b g cap bk (.slice A5 out5.length c5) s6 out5 cs9 back9 (103 + 20 * k) (k + 1)) := Lib.hid
            ⟨HL9.out.drewN n9, by rw [hW6'.out, hout6.out, hback9]; exact (hout.out ▸ HR.out.rm).give, by rw [show (103 : Int) + 20 * k = 100 + 20 * k + 3 by omega]; exact hl6,
              below_drewNs (Below.setCell (Below.grown hb7.out (grown_drew_ hgr8'.out) (by have := HL6.out.lB; simp; omega) (fun k' hk' => (hrz7.out.lt hk').1)) HL6.out.lbk _) n9,
              (by rw [hout6.out]; simp; omega), (fun y => by
                have := HR.out.bl y
                rw [hback9]
                simp only
                split
                · rename_i hy; subst hy; simp; omega
                · omega)⟩
          have ol5 : out5.length ≤ k := by rw [hout6.out]; simp; omega
          go_wp2
          go_meet
          exact ⟨s6, out5, cs9, back9, A5, c5, rfl, HR9.out, ol5⟩
      case rest => as_aux_lemma =>
        obtain ⟨s6, out5, cs9, back9, A5, c5, rfl, HR9', ol5⟩ := hcut
        have HR9 := Lib.hid HR9'
        clear HR9' HR ol hbb
        obtain ⟨w9, rfl⟩ : ∃ o, o = wc := ⟨wc, rfl⟩
        obtain ⟨zt, hzt⟩ : ∃ zt : Nat, (zt : Int) = 1 + zs % 16 := ⟨(1 + zs % 16).toNat, by omega⟩
        have zt1 : 1 ≤ zt := by omega
        have zt2 : zt ≤ 16 := by omega
        have zt3 : (1 : Int) ≤ zt := by omega
        have zt4 : (zt : Int) ≤ 16 := by omega
        have Hzt : 1 + zs % 16 = (zt : Int) := hzt.symm
        clear hzt a0
        have a9 := keepCell HR9.out.bel (Nat.le_refl _) G0.out
        go_wp2_with fail
        refine (left_l HR9.out.lp HR9.out.live (by omega) HR9.out.rm).mono ?_
        rintro e w10 ⟨lf, s10, hlf', hlf0, hlf1, rfl, HL10', hW10', hl10', hb10'⟩
        have HL10 := Lib.hid HL10'
        have hW10 := Lib.hid hW10'
        have hl10 := Lib.hid hl10'
        have hb10 := Lib.hid hb10'
        have hlf := Lib.hid hlf'
        clear hlf' HL10' hW10' hl10' hb10'
        go_wp2_with fail
        refine (take_l HL10.out hl10.out (by omega) (by rw [hW10.out]; exact HR9.out.rm) zt1 zt2).mono ?_
        rintro e w11 ⟨s11, a, er, back11, rfl, HL11', hl11', hb11', ht⟩
        obtain ⟨vt, hvt', hrt', hrg'⟩ := HL11'.row zt (by omega)
        obtain ⟨At, ct, rfl, hct, hnt⟩ := hrt'.shape
        have k11 := (HL11'.box.cell zt).trans hvt'
        have HL11 := Lib.hid HL11'
        have hl11 := Lib.hid hl11'
        have hb11 := Lib.hid hb11'
        have hvt := Lib.hid hvt'
        have hrt := Lib.hid hrt'
        have hbW : Hid (Below W.heap.size W w11) := Lib.hid ((HR9.out.bel.trans hb10.out).trans hb11')
        have hbl9 := HR9.out.bl zt
        have zt17 : (zt : Int) < 17 := by omega
        clear HL11' hl11' hb11' hvt' hrt' hrg' hnt
        rcases ht with ⟨rfl, rfl, hW11, hnil, hlt9, hbk9⟩ | ⟨rfl, ha1, ha2, hrm, hdj, hb⟩
        case' inl =>
          obtain rfl : back9 = back11 := hbk9.symm
          have hlt9' : lf < zt := by rw [hlf.out, ← hW10.out]; exact hlt9
          have hrmE := Lib.hid (show Rm s11.W fr (fr + cn) out5 back9 by rw [hW11, hW10.out]; exact HR9.out.rm)
          clear hlt9 hW11
          go_wp2_with (go_at_call 10; refine (num_c _ _).mono ?_; rintro e _ ⟨rfl, rfl⟩)
          obtain ⟨k', rfl⟩ : ∃ k', gk = k' + 1 := ⟨gk - 1, by omega⟩
          go_roundg k'
          case' measure => omega
          case' rel => exact ⟨k + 1, s11, out5, cs9, back9, by omega, by go_num, HL11.out, hrmE.out, hl11.out.weak (by omega), hbW.out, by omega, HR9.out.bl⟩
        have hrmN := Lib.hid hrm
        have hdjN := Lib.hid hdj
        have f0' := HR9.out.rm.to0
        obtain ⟨aN, rfl⟩ : ∃ aN : Nat, a = (aN : Int) := ⟨a.toNat, by omega⟩
        clear hrm hdj
        go_upto_if 135 with (go_at_call 10; refine (num_c _ _).mono ?_; rintro e _ ⟨rfl, rfl⟩)
        go_cut [19] (fun c19 wx => ∃ cs12, Lp wx W.heap.size T b g cap bk s11 out5 (.slice A5 out5.length c5) cs12 back11 ∧ Below W.heap.size W wx ∧ ∀ y, (back11 y).length ≤ k + 1)
        case first => as_aux_lemma =>
         rcases hb with ⟨hnil, hbk9⟩ | ⟨l, hl, hbk9⟩
         case' inl =>
          have hm0 : ¬ (0 < (back9 zt).length) := by rw [hnil]; simp
          go_wp2
          go_meet
          exact ⟨cs9, by rw [hbk9]; exact HL11.out, hbW.out, by rw [hbk9]; exact HR9.out.bl⟩
         case' inr =>
          obtain ⟨lm, hlm⟩ : ∃ lm, lm = l.length := ⟨_, rfl⟩
          have e1 : (back9 zt).length = lm + 1 := by rw [hl, hlm]; simp
          have e2 : W1 (back9 zt) = W1 l ++ [.int .u64 aN] := by rw [hl]; simp [W1]
          rw [e1] at k11 hrt
          rw [e2] at hrt
          rw [e1] at hvt
          obtain ⟨gt, offt, ctt, hst, _, _, hctt, hcell⟩ := hrt.out.at_ (by omega)
          injection hst with hst1 hst2 hst3
          subst hst1
          subst hst3
          have kl := (hcell lm (by omega)).1
          have hW1l : (W1 l).length = lm := by rw [hlm]; simp [W1]
          rw [List.getElem?_append_right (by omega), hW1l] at kl
          simp only [Nat.sub_self, List.getElem?_cons_zero] at kl
          have z29 := HL11.out.box.frozen zt
          have hlm0 : (0 : Int) < (lm : Int) + 1 := by omega
          have hlm1 : (lm : Int) + 1 ≤ ct := by omega
          have hlm2 : (lm : Int) ≤ ct := by omega
          have hlm3 : (lm : Int) ≤ 9223372036854775807 := by omega
          have hcut := hrt.out.cut (m := lm) (c := ct) (by omega) (by omega) (Nat.le_refl _)
          rw [List.take_append_of_le_length (by omega), List.take_of_length_le (by omega)] at hcut
          have HL12 := Lib.hid (Lp.backs (w' := w11) (v' := .slice (some ⟨gt, offt, none⟩) lm ct) (l := l) HL11.out (by omega) hvt.out (by rw [← hlm]; exact hcut) ⟨rfl, rfl, rfl, Nat.le_refl _, fun _ _ _ => rfl⟩ (.inl rfl))
          obtain ⟨cs12, hcs12⟩ : ∃ u, u = cs9.setIfInBounds zt (.slice (some ⟨gt, offt, none⟩) lm ct) := ⟨_, rfl⟩
          rw [← hcs12, ← hbk9] at HL12
          have hb12 := Lib.hid (Below.setCell hbW.out HL11.out.lbk (.slice (some ⟨gt, offt, none⟩) lm ct) (p := ⟨bk, zt, none⟩))
          have hbl12 : Hid (∀ y, (back11 y).length ≤ k + 1) := Lib.hid (fun y => by
            have := HR9.out.bl y
            rw [hbk9]
            simp only
            split
            · omega
            · exact this)
          clear hbk9 hcs12 hcut hvt hrt hcell e2 hl hlm hW1l HL11 hbW HR9 hctt hct hbl9
          go_wp2
          go_meet
          exact ⟨cs12, HL12.out, hb12.out, hbl12.out⟩
        case rest => as_aux_lemma =>
          obtain ⟨cs12, HL12', hb12', hbl12'⟩ := hcut
          have HL12 := Lib.hid HL12'
          have hb12 := Lib.hid hb12'
          have hbl12 := Lib.hid hbl12'
          clear HL12' hb12' hbl12' HL11 hbW HR9 hb hvt hrt k11 hct hbl9
          obtain ⟨w12, rfl⟩ : ∃ u, u = wc := ⟨wc, rfl⟩
          obtain ⟨gk0, rfl⟩ : ∃ u, u = gk := ⟨gk, rfl⟩
          have ol5' : (out5.length : Int) ≤ 9223372036854775807 := by omega
          go_wp2
          go_loopg [20] out5.length (fun gk2 c20 wr2 => ∃ (j nd : Nat), gk2 + j = out5.length ∧ c20 = .int .i64 (j : Int) ∧ wr2 = w12.drewN nd)
          case' atStart => exact ⟨0, 0, rfl, rfl, rfl⟩
          case' round =>
            obtain ⟨j, nd, hj, rfl, rfl⟩ := hrel
            rcases Nat.lt_or_ge j out5.length with hjl | hjg
            case' inl =>
              obtain ⟨g5, off5, c5', hv5, _, _, hc5, hcell5⟩ := HL12.out.outs.at_ (by omega)
              injection hv5 with hv51 hv52 hv53
              subst hv51
              subst hv53
              obtain ⟨⟨qa, qz⟩, hqq⟩ : ∃ p, out5[j]? = some p := ⟨_, List.getElem?_eq_getElem hjl⟩
              obtain ⟨q1, q2⟩ := P2_get out5 j _ hqq
              have d0 := (hcell5 (j * 2) (by omega)).1.trans q1
              have d1 := (hcell5 (j * 2 + 1) (by omega)).1.trans q2
              rw [← Nat.add_assoc] at d1
              simp only at d0 d1
              obtain ⟨i1, i2, i3, i4⟩ := hrmN.out.outIn (qa, qz) (by simp [List.mem_of_getElem? hqq])
              simp only at i1 i2 i3 i4
              have i5 := hrmN.out.nx1
              have hdd := hdjN.out (qa, qz) (List.mem_of_getElem? hqq)
              obtain ⟨qs, hqs⟩ : ∃ u, u = qa + qz := ⟨_, rfl⟩
              obtain ⟨ae, hae⟩ : ∃ u, u = (aN : Int) + (zt : Int) := ⟨_, rfl⟩
              have hw1 : IntKind.u64.wrap (qa + qz) = qs := by rw [hqs]; exact IntWalk.u64_in _ (by omega)
              have hw2 : IntKind.u64.wrap ((aN : Int) + (zt : Int)) = ae := by rw [hae]; exact IntWalk.u64_in _ (by omega)
              have hjz : (j : Int) < out5.length := by omega
              have hb1 : (decide ((aN : Int) < qs) = true ∧ decide (qa < ae) = false) ∨ decide ((aN : Int) < qs) = false := by
                unfold Disj at hdd
                simp only at hdd
                by_cases h : (aN : Int) < qs
                · exact .inl ⟨decide_eq_true h, decide_eq_false (by omega)⟩
                · exact .inr (decide_eq_false h)
              clear hqs hae
              clear hcell5 q1 q2 hqq i1 i2 i3 i4 i5 hdd
              go_wp2
              rcases hb1 with ⟨hb1, hb2⟩ | hb1
              all_goals
                refine wp_region_mixH (fun _ => True) [3, 3, 3, 3, 3, 1, 3, 3, 3, 3, 1, 3, 3, 3, 3, 3, 3, 3, 1, 3, 3, 3, 3, 3] (List.range 24) (by kernel_rfl) (by kernel_rfl) (fun _ _ h => h) trivial ?_
                repeat ((first | refine wpMixH_pure rfl rfl (fun K hK => ?_) | refine wpMixH_loc rfl rfl (fun K hK => ?_) | refine wpMixH_any rfl rfl (fun K hK => ?_)); go_simp; refine hK _ _ ?_; clear hK K)
                refine wpMixH_nil (fun n => ?_)
                go_wp2
                obtain ⟨k', rfl⟩ : ∃ k', gk = k' + 1 := ⟨gk - 1, by omega⟩
                go_roundg k'
                case' measure => omega
                case' rel => exact ⟨j + 1, _, by omega, by go_num, rfl⟩
            case' inr =>
              obtain rfl : j = out5.length := by omega
              clear hj
              have HL13 := Lib.hid (HL12.out.drewN nd)
              have hb13 := Lib.hid (below_drewNs hb12.out nd)
              obtain ⟨w13, hw13⟩ : ∃ u, u = w12.drewN nd := ⟨_, rfl⟩
              rw [← hw13] at HL13 hb13 ⊢
              clear hw13 HL12 hb12
              have hazl : (aN : Int) + (zt : Int) ≤ 300 := by omega
              go_wp2
              go_loopg [21] zt (fun gk3 c21 wr3 => ∃ (j : Nat) (s3 : St), gk3 + j = zt ∧ c21 = .int .u64 ((aN : Int) + (j : Int)) ∧ Lp wr3 W.heap.size T b g cap bk s3 out5 (.slice A5 out5.length c5) cs12 back11 ∧ Rm s3.W fr (fr + cn) (out5 ++ [((aN : Int), (zt : Int))]) back11 ∧ Live s3 (110 + 20 * k) ∧ Below W.heap.size W wr3)
              case' atStart => exact ⟨0, s11, rfl, by simp, HL13.out, hrmN.out, hl11.out.weak (by omega), hb13.out⟩
              case' round =>
                obtain ⟨j, s3, hj, rfl, HL14', hrm14', hl14', hb14'⟩ := hrel
                have hlen3 := hrm14'.len
                have HL14 := Lib.hid HL14'
                have hrm14 := Lib.hid hrm14'
                have hl14 := Lib.hid hl14'
                have hb14 := Lib.hid hb14'
                clear HL14' hrm14' hl14' hb14'
                have hj' := Lib.hid hj
                clear hj
                rcases Nat.lt_or_ge j zt with hjl | hjg
                case' inl =>
                  have c0 := HL14.out.tx.1.cell 0
                  have c1 := HL14.out.tx.2.1.cell 0
                  obtain ⟨c2, c3⟩ := HL14.out.tx.2.words (aN + j) (by omega)
                  obtain ⟨u0, hu0⟩ : ∃ u, s3.W.getD (aN + j) 0 = u := ⟨_, rfl⟩
                  rw [hu0] at c2
                  simp only [List.getElem?_toArray, List.getElem?_cons_zero] at c0 c1
                  obtain ⟨L3, hL3⟩ : ∃ u, u = s3.W.length := ⟨_, rfl⟩
                  rw [← hL3] at c1
                  have hij : ((aN : Int) + (j : Int)).toNat = aN + j := by omega
                  have hil : (aN : Int) + (j : Int) < L3 := by omega
                  have hia : (aN : Int) + (j : Int) < (aN : Int) + (zt : Int) := by omega
                  have hx0 : 0 ≤ 9223372036854775808 + ((aN : Int) + (j : Int)) ∧ 9223372036854775808 + ((aN : Int) + (j : Int)) ≤ 18446744073709551615 := by omega
                  have hnew := Lib.hid (HL14.out.word (aN + j) (9223372036854775808 + ((aN : Int) + (j : Int))) (by omega) hx0)
                  have f18 := hrm14.out.fr0
                  have hrm15 := Lib.hid (hrm14.out.turn (W' := s3.W.set (aN + j) (9223372036854775808 + ((aN : Int) + (j : Int)))) (by simp) (fun y hy => getD_ne _ (by omega)) (fun y y1 y2 x hx => by
                    have h1 := hrm14.out.ob ((aN : Int), (zt : Int)) (by simp) y y1 y2 x hx
                    have h2 := hrm14.out.backIn y y1 y2 x hx
                    unfold Disj at h1
                    simp only at h1
                    exact getD_ne _ (by omega)))
                  clear hu0 hL3 hx0 hlen3
                  go_wp2
                  obtain ⟨k', rfl⟩ : ∃ k', gk = k' + 1 := ⟨gk - 1, by have := hj'.out; omega⟩
                  go_roundg k'
                  case' measure => omega
                  case' rel => exact ⟨j + 1, _, by have := hj'.out; omega, by simp [Int.add_assoc], hnew.out, hrm15.out, hl14.out.put _, hb14.out.setCell HL14.out.lg _⟩
                case' inr =>
                  obtain rfl : j = zt := by have := hj'.out; omega
                  obtain ⟨i2, hi2, hz20, hz21, hz22⟩ := info_parts p2_info
                  have hsz := hb14.out.size
                  go_wp2_with (at_builtin; refine wpList_app _ rfl (.tmp 221) (.tmp 225) 42 rfl 46 i2 (.agg #[.int .u64 0, .int .u64 0]) 2 16 Try.underlying42 hi2 hz20 hz21 hz22 rfl (by decide) W.heap.size (.slice A5 out5.length c5) out5.length (P2 out5) rfl ((HL14.out.alloc _).outs) _ 1 [.int .u64 (aN : Int), .int .u64 (j : Int)] rfl (Src.lit _ (by rfl) (by simp [Value.oneCell']) 1) (by unfold maxLen; omega) (by omega) ((HL14.out.alloc _).lB) ?_; intro v20 w20 hrow20 hgr20 hown20)
                  have HL20 := Lp.outs_ (HL14.out.alloc (.cells #[.int .u64 (aN : Int), .int .u64 (j : Int)] 46)) (out' := out5 ++ [((aN : Int), (j : Int))]) (vo' := v20) (by rw [P2_append, List.length_append]; exact hrow20) hgr20
                  have hb20 : Below W.heap.size W w20 := Below.grown (hb14.out.alloc hb14.out.size (.cells #[.int .u64 (aN : Int), .int .u64 (j : Int)] 46)) hgr20 (by have := hb14.out.size; simp; omega) (fun k' hk' => (Rowv.lt (HL14.out.alloc (.cells #[.int .u64 (aN : Int), .int .u64 (j : Int)] 46)).outs hk').1)
                  obtain ⟨k', rfl⟩ : ∃ k', gk0 = k' + 1 := ⟨gk0 - 1, by omega⟩
                  go_roundg k'
                  case' measure => omega
                  case' rel => exact ⟨k + 1, s3, out5 ++ [((aN : Int), (j : Int))], cs12, back11, by omega, by go_num, HL20, hrm14.out, hl14.out.weak (by omega), hb20, by rw [List.length_append, List.length_singleton]; omega, hbl12.out⟩
    · obtain rfl : k = n := by omega
      have hbel := Lib.hid HR.out.bel
      clear HR
      go_wp2_with (go_at_call 8; refine (works_b _).mono ?_; rintro e w3 ⟨hb3, rfl⟩)
      go_ret
      exact ⟨rfl, hbel.out.trans (hb3.mono hbel.out.size)⟩
end Go.Proofs.Ythabfblcmbjlnaa
