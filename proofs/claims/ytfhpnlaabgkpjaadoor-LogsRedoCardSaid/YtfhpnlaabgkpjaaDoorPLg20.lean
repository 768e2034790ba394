/- noRedo, by contract. -/
import Derived.Deep.DeepCutAuto
import Derived.Test.YtfhpnlaabgkpjaaDoorPLg12
import Derived.Test.YtfhpnlaabgkpjaaDoorPLg16
import Derived.Test.YtfhpnlaabgkpjaaDoorPLg17
import Derived.Test.YtfhpnlaabgkpjaaDoorPLg18
namespace Go.Proofs.YtfhpnlaabgkpjaaDoor
open Go.RowKit Go.Shelf
set_option maxHeartbeats 8000000
set_option linter.unusedVariables false
set_option linter.unusedSimpArgs false
set_option maxRecDepth 100000 in
theorem noRedo_b {w : World} {p : Option Addr} (h : RoN w p) : Calls Tryd.prog 24 #[.pointer p] w fun e w' => e = .returned (.bool true) ∧ Fr (fun _ => False) w (fun _ => False) w' := by
  have N1 := Lib.hid (mat_b h)
  have H := Lib.hid h
  have ce := fun w => cell_eql 0 0 0 0 w
  simp only [decide_true, Bool.and_self] at ce
  clear h
  go_enter Tryd.func24, Tryd.ntmps24
  go_wp2_with fail
  refine N1.out.mono ?_
  rintro _ w1 ⟨rfl, f1⟩
  obtain ⟨w2, hw2⟩ : ∃ u, Hid (u = w1.alloc (.cells #[.int .u64 0, .int .u64 0] 55)) := ⟨_, Lib.hid rfl⟩
  have f2 : Hid (Fr (fun _ => False) w (fun _ => False) w2) := Lib.hid (by rw [hw2.out]; exact f1.alloc _)
  have b2 : Hid (Blk w2 w1.heap.size 55 #[.int .u64 0, .int .u64 0]) := Lib.hid (by rw [hw2.out]; exact Blk.new _ _ _)
  have G2 := Lib.hid (mget_b (H.out.fr f2.out))
  obtain ⟨w3, hw3⟩ : ∃ u, Hid (u = w2.alloc (.cells #[.int .u64 1] 38)) := ⟨_, Lib.hid rfl⟩
  have f3 : Hid (Fr (fun _ => False) w2 (fun _ => False) w3) := Lib.hid (by rw [hw3.out]; exact (Fr.refl _ w2).alloc _)
  have H3 := Lib.hid (H.out.fr (f2.out.trans f3.out))
  have b3 := Lib.hid (f3.out.blk b2.out fun h => h)
  have v0 : w3.cell? ⟨w1.heap.size, 0, none⟩ = some (.int .u64 0) := b3.out.cell 0
  have v1 : w3.cell? ⟨w1.heap.size, 1, none⟩ = some (.int .u64 0) := b3.out.cell 1
  have f3w := Lib.hid (f2.out.trans f3.out)
  have O3 := Lib.hid (fun B n c => mover_b (B := B) (n := n) (c := c) H3.out)
  have A4 := Lib.hid (mput_b (a := 0) (x := 0) H3.out)
  have C4 := Lib.hid (mback_b H3.out)
  have L4 := Lib.hid (mlen_b H3.out)
  have M4 := Lib.hid (mmark_b H3.out)
  have S4 := Lib.hid (mall_b H3.out)
  clear f1 N1 b2 b3 f2 f3 H
  go_upto_region 2 with (fail)
  rw [← hw2.out]
  generalize w1.heap.size = bb at *
  go_wp2_with fail
  refine G2.out.mono ?_
  rintro _ u ⟨rfl, rfl⟩
  go_wp2_with fail
  rw [← hw3.out]
  refine (O3.out _ _ _).mono ?_
  rintro _ u ⟨rfl, rfl⟩
  clear G2 O3 hw2 hw3
  go_wp2_with fail
  refine A4.out.mono ?_
  rintro _ u ⟨rfl, rfl⟩
  go_wp2_with fail
  refine num_b.mono ?_
  rintro _ u ⟨rfl, rfl⟩
  go_wp2_with fail
  refine C4.out.mono ?_
  rintro _ u ⟨rfl, rfl⟩
  go_wp2_with fail
  refine num_b.mono ?_
  rintro _ u ⟨rfl, rfl⟩
  go_wp2_with fail
  refine L4.out.mono ?_
  rintro _ u ⟨rfl, rfl⟩
  go_wp2_with fail
  refine M4.out.mono ?_
  rintro _ u ⟨rfl, rfl⟩
  go_wp2_with fail
  refine num_b.mono ?_
  rintro _ u ⟨rfl, rfl⟩
  go_wp2_with fail
  refine S4.out.mono ?_
  rintro _ w5 ⟨b, rfl, s5, f5⟩
  have W5 := Lib.hid (walk_b (n := 0) s5 (Below.refl _ _) (LiesC.nil w5) (by simp))
  have H5 := Lib.hid (H3.out.fr f5)
  have f5w := Lib.hid (f3w.out.trans f5)
  clear s5 f5 A4 C4 L4 M4 S4 H3 f3w v0 v1
  go_wp2_with fail
  refine W5.out.mono ?_
  rintro _ w6 ⟨rfl, f6⟩
  have N6 := Lib.hid (mcopy_b (H5.out.fr f6))
  have f6w := Lib.hid (f5w.out.trans f6)
  clear f6 W5 H5
  go_wp2_with fail
  refine N6.out.mono ?_
  rintro _ u ⟨rfl, rfl⟩
  go_wp2
  go_ret
  exact ⟨rfl, f6w.out⟩
end Go.Proofs.YtfhpnlaabgkpjaaDoor
/- A redo log: Copy, by contract. -/
namespace Go.Proofs.YtfhpnlaabgkpjaaDoor
open Go.RowKit Go.Shelf
set_option maxHeartbeats 8000000
set_option linter.unusedVariables false
set_option linter.unusedSimpArgs false

section
variable {w w' : World} {r most : Nat} {F G G' : Nat → Prop} {o L : List (Int × Int)} {p : List (Int × Int × Bool)} {vl vp : Value} {t : Nat} {T : Tbl Int}
set_option maxRecDepth 100000 in
theorem wcopy_b (hT : Tab w) (h : RoW w r F most o p) (hl : o.length ≤ 1048576) (hp : (0 + p.length) * 24 ≤ 140737488355328) :
    Calls Tryd.prog 25 #[.pointer (some ⟨r, 0, none⟩)] w fun e w' => ∃ s F', e = .returned (.pointer (some ⟨s, 0, none⟩)) ∧ RoW w' s F' most o p ∧ Fr (fun _ => False) w F' w' := by
  obtain ⟨vl, vp, t, G0, T0, rfl, h, hix, hk⟩ := h
  have hmx : Tryd.prog.follows .mixedOrders = true := by kernel_rfl
  obtain ⟨A, cp, rfl, hcp⟩ := Sl.shape h.ol
  obtain ⟨Ap, cpp, rfl, hcpp⟩ := Sl.shape h.pw
  have c0 : w.cell? ⟨r, 0, none⟩ = some (.bool true) := h.blk.cell 0
  have c1 : w.cell? ⟨r, 1, none⟩ = some (.int .i64 (most : Int)) := h.blk.cell 1
  have c2 : w.cell? ⟨r, 2, none⟩ = some (.slice A o.length cp) := h.blk.cell 2
  have c4 : w.cell? ⟨r, 4, none⟩ = some (.slice Ap p.length cpp) := h.blk.cell 4
  have C := Lib.hid (wnone_b c0)
  have H := Lib.hid h
  have ho1 := Lib.hid (show 0 + o.length ≤ 9223372036854775807 by omega)
  have ho2 := Lib.hid (show (0 + o.length) * 16 ≤ 140737488355328 by omega)
  have hp1 := Lib.hid (show 0 + p.length ≤ 9223372036854775807 by omega)
  have hoi : (o.length : Int) ≤ 1048576 := by omega
  replace hp := Lib.hid hp
  replace hT := Lib.hid hT
  have hnd := Lib.hid hix.nodup
  clear h c0 hcp hcpp hk hix
  go_enter Tryd.func25, Tryd.ntmps25
  go_wp2_with fail
  refine C.out.mono ?_
  rintro _ u ⟨rfl, rfl⟩
  go_wp2_with fail
  refine wp_region_mixH (fun W => W.cell? ⟨r, 1, none⟩ = some (.int .i64 (most : Int)) ∧ W.cell? ⟨r, 4, none⟩ = some (.slice Ap p.length cpp)) [3, 3, 3, 0, 3, 3, 3, 1, 2, 2, 3, 3, 3, 0, 2, 2, 2, 3] [0, 1, 2, 3, 4, 5, 6, 7, 10, 11, 12, 13, 8, 9, 14, 15, 16, 17] (by kernel_rfl) (by kernel_rfl) (fun _ _ h => h) ⟨c1, c4⟩ ?_
  repeat (first | ((first | refine wpMixH_pure rfl rfl (fun K hK => ?_) | refine wpMixH_loc rfl rfl (fun K hK => ?_) | refine wpMixH_any rfl rfl (fun K hK => ?_)); go_simp; refine hK _ _ ?_; clear hK K) | (refine wpMixH_any rfl rfl (fun K hK => ?_); rw [if_pos (by go_simp)]; apply Exists.intro; refine And.intro (fun w2 hS2 => ?_) (hK _ _ ?_); (focus (obtain ⟨hs1, hs2⟩ := hS2; go_simp; rfl)); clear hK K))
  refine wpMixH_loud rfl rfl (fun m1 K hK => ?_)
  refine wpList_cells (w.drew.drewN m1) rfl (.const (.slice none 0 0)) (.tmp 15) rfl (.slice none 0 0) (.slice A o.length cp) [] o rfl (Sl.nil _) rfl (RoA.drewN H.out (1 + m1)).ol ho1.out ho2.out ?_
  intro A3 cp3 w3 hc3 hv3 hm3
  rw [show w.drew.drewN m1 = w.drewN (1 + m1) from drewN_drewN w 1 m1] at hm3
  have m3 : Fr (fun _ => False) (w.drewN (1 + m1)) (own (.slice A3 (([] : List (Int × Int)).length + o.length) cp3)) w3 := Fr.wide hm3 fun k hk => (own_nil' 0 0 k hk).elim
  have H3 := Lib.hid ((RoA.drewN H.out (1 + m1)).new_ m3)
  have c13 : w3.cell? ⟨r, 1, none⟩ = some (.int .i64 (most : Int)) := H3.out.blk.cell 1
  have c43 : w3.cell? ⟨r, 4, none⟩ = some (.slice Ap p.length cpp) := H3.out.blk.cell 4
  have e0 : ([] : List (Int × Int)).length + o.length = o.length := Nat.zero_add _
  rw [e0, List.nil_append] at hv3
  rw [e0] at m3
  replace hv3 := Lib.hid hv3
  have F3 := Lib.hid (((Fr.refl (fun _ => False) w).drewN (1 + m1)).trans m3)
  clear hm3 m3 c1 c2 c4 C H
  refine hK _ _ (fun _ => ⟨c13, c43⟩) ?_; clear hK K
  repeat (first | ((first | refine wpMixH_pure rfl rfl (fun K hK => ?_) | refine wpMixH_loc rfl rfl (fun K hK => ?_) | refine wpMixH_any rfl rfl (fun K hK => ?_)); go_simp; refine hK _ _ ?_; clear hK K) | (refine wpMixH_any rfl rfl (fun K hK => ?_); rw [if_pos (by go_simp)]; apply Exists.intro; refine And.intro (fun w2 hS2 => ?_) (hK _ _ ?_); (focus (obtain ⟨hs1, hs2⟩ := hS2; go_simp; rfl)); clear hK K))
  refine wpMixH_loud rfl rfl (fun m2 K hK => ?_)
  go_wp2_with fail
  refine (newI_tb _).mono ?_
  rintro _ w4 ⟨t2, G2, rfl, ht2, f2⟩
  have H4 := Lib.hid ((RoA.drewN H3.out m2).new_ f2)
  have c14 : w4.cell? ⟨r, 1, none⟩ = some (.int .i64 (most : Int)) := H4.out.blk.cell 1
  have c44 : w4.cell? ⟨r, 4, none⟩ = some (.slice Ap p.length cpp) := H4.out.blk.cell 4
  have V4 : Hid (Cl w4 (.slice A3 o.length cp3) o) := Lib.hid (Sl.fr (Sl.drewN hv3.out m2) f2 fun _ _ h => h)
  have F4 : Hid (Fr (fun _ => False) w (fun b => own (.slice A3 o.length cp3) b ∨ G2 b) w4) := Lib.hid (((F3.out.drewN m2).trans (f2.wide fun _ h => h.elim)).into fun k hk => hk.elim (fun h => (F3.out.new k h).elim (fun h => .inr (.inl h)) fun h => .inr (.inr h)) .inl)
  replace ht2 := Lib.hid ht2
  clear f2 H3 hv3 F3 c13 c43
  go_wp2_with fail
  refine hK _ _ (fun _ => ⟨c14, c44⟩) ?_; clear hK K
  repeat (first | ((first | refine wpMixH_pure rfl rfl (fun K hK => ?_) | refine wpMixH_loc rfl rfl (fun K hK => ?_) | refine wpMixH_any rfl rfl (fun K hK => ?_)); go_simp; refine hK _ _ ?_; clear hK K) | (refine wpMixH_any rfl rfl (fun K hK => ?_); rw [if_pos (by go_simp)]; apply Exists.intro; refine And.intro (fun w2 hS2 => ?_) (hK _ _ ?_); (focus (obtain ⟨hs1, hs2⟩ := hS2; go_simp; rfl)); clear hK K))
  refine wpMixH_loud rfl rfl (fun m3 K hK => ?_)
  have P4 := Lib.hid (RoA.drewN H4.out m3)
  refine wpList_wases (w4.drewN m3) rfl (.const (.slice none 0 0)) (.tmp 21) rfl (.slice none 0 0) (.slice Ap p.length cpp) [] p rfl (Sl.nil _) rfl P4.out.pw hp1.out hp.out ?_
  intro A5 cp5 w5 hc5 hv5 hm5
  have m5 : Fr (fun _ => False) (w4.drewN m3) (own (.slice A5 (([] : List (Int × Int × Bool)).length + p.length) cp5)) w5 := Fr.wide hm5 fun k hk => (own_nil' 0 0 k hk).elim
  have e1 : ([] : List (Int × Int × Bool)).length + p.length = p.length := Nat.zero_add _
  rw [e1, List.nil_append] at hv5
  rw [e1] at m5
  replace hv5 := Lib.hid hv5
  have V5 : Hid (Cl w5 (.slice A3 o.length cp3) o) := Lib.hid (Sl.fr (Sl.drewN V4.out m3) m5 fun _ _ h => h)
  have T5 := Lib.hid ((ht2.out.drewN m3).fr m5 fun _ _ h => h)
  have F5 : Hid (Fr (fun _ => False) w (fun b => (own (.slice A3 o.length cp3) b ∨ G2 b) ∨ own (.slice A5 p.length cp5) b) w5) := Lib.hid (((F4.out.drewN m3).trans (m5.wide fun _ h => h.elim)).into fun k hk => hk.elim (fun h => (F4.out.new k h).elim (fun h => .inr (.inl h)) fun h => .inr (.inr h)) .inl)
  have H5 := P4.out.new_ m5
  have c15 : w5.cell? ⟨r, 1, none⟩ = some (.int .i64 (most : Int)) := H5.blk.cell 1
  have c45 : w5.cell? ⟨r, 4, none⟩ = some (.slice Ap p.length cpp) := H5.blk.cell 4
  clear hm5 m5 P4 H4 V4 F4 ht2 c14 c44 H5
  refine hK _ _ (fun _ => ⟨c15, c45⟩) ?_; clear hK K
  repeat ((first | refine wpMixH_pure rfl rfl (fun K hK => ?_) | refine wpMixH_loc rfl rfl (fun K hK => ?_) | refine wpMixH_any rfl rfl (fun K hK => ?_)); go_simp; refine hK _ _ ?_; clear hK K)
  refine wpMixH_loud rfl rfl (fun m4 K hK => ?_)
  go_wp2_with fail
  refine hK _ _ (fun h => (Bool.false_ne_true ((Eq.symm (by kernel_rfl)).trans h)).elim) ?_; clear hK K
  refine wpMixH_loud rfl rfl (fun m5 K hK => ?_)
  go_wp2_with fail
  refine hK _ _ (fun h => (Bool.false_ne_true ((Eq.symm (by kernel_rfl)).trans h)).elim) ?_; clear hK K
  repeat ((first | refine wpMixH_pure rfl rfl (fun K hK => ?_) | refine wpMixH_loc rfl rfl (fun K hK => ?_) | refine wpMixH_any rfl rfl (fun K hK => ?_)); go_simp; refine hK _ _ ?_; clear hK K)
  refine wpMixH_nil (fun m6 => ?_)
  have R6 : Hid (RoA (((w5.drewN (m4 + m5)).alloc (.cells #[.bool true, .int .i64 (most : Int), .slice A3 o.length cp3, .pointer (some ⟨t2, 0, none⟩), .slice A5 p.length cp5] 70)).drewN m6) w5.heap.size most o p (.slice A3 o.length cp3) (.slice A5 p.length cp5) t2 G2 (Tbl.new 0)) :=
    Lib.hid (RoA.drewN ⟨Blk.new (w5.drewN (m4 + m5)) _ _, Sl.alloc (Sl.drewN V5.out (m4 + m5)) _, Sl.alloc (Sl.drewN hv5.out (m4 + m5)) _, (T5.out.drewN (m4 + m5)).fr ((Fr.refl (fun _ => False) (w5.drewN (m4 + m5))).alloc _) fun _ _ h => h⟩ m6)
  have F6 : Hid (Fr (fun _ => False) w (RoF w5.heap.size (.slice A3 o.length cp3) (.slice A5 p.length cp5) G2) (((w5.drewN (m4 + m5)).alloc (.cells #[.bool true, .int .i64 (most : Int), .slice A3 o.length cp3, .pointer (some ⟨t2, 0, none⟩), .slice A5 p.length cp5] 70)).drewN m6)) := Lib.hid ((((F5.out.drewN (m4 + m5)).alloc _).drewN m6).into fun k hk => by
    rcases hk with hk | hk | hk | hk
    · exact .inr (.inr (by have := F5.out.size; omega))
    · exact .inl (.inl (.inl hk))
    · exact .inl (.inr hk)
    · exact .inl (.inl (.inr hk)))
  clear V5 hv5 T5 F5 c15 c45
  generalize ((w5.drewN (m4 + m5)).alloc (.cells #[.bool true, .int .i64 (most : Int), .slice A3 o.length cp3, .pointer (some ⟨t2, 0, none⟩), .slice A5 p.length cp5] 70)).drewN m6 = w6 at *
  generalize w5.heap.size = s at *
  have c26 : w6.cell? ⟨s, 2, none⟩ = some (.slice A3 o.length cp3) := R6.out.blk.cell 2
  go_wp2
  go_loopw [30] (fun iv wr => ∃ (i : Nat) (G : Nat → Prop) (T : Tbl Int), i ≤ o.length ∧ iv = .int .i64 i ∧ Hid (RoA wr s most o p (.slice A3 o.length cp3) (.slice A5 p.length cp5) t2 G T ∧ Ixd T (o.take i) ∧ T.k ≤ 22 ∧ Fr (fun _ => False) w (RoF s (.slice A3 o.length cp3) (.slice A5 p.length cp5) G) wr)) (fun iv _ => o.length - (intOf iv).toNat)
  case atStart => exact ⟨0, G2, Tbl.new 0, Nat.zero_le _, rfl, Lib.hid ⟨R6.out, Ixd.new, by show 3 ≤ 22; omega, F6.out⟩⟩
  case round =>
    clear R6 F6 c26
    obtain ⟨i, G, T, hi, rfl, HH⟩ := hrel
    by_cases hil : i < o.length
    · obtain ⟨R, X, hk, FF⟩ := HH.out
      obtain ⟨A', cp', eA, _, _, hcl⟩ := (Cl.lies R.ol)
      injection eA with e1 e2 e3
      subst e1 e3
      obtain ⟨g, off, rfl, _, d0, d1⟩ := hcl i hil
      have hii : (i : Int) < (o.length : Int) := by omega
      have hTl : T.l.length = i := by rw [X.l, List.length_map, List.length_take]; omega
      have hnot : (o[i]'hil).1 ∉ (o.take i).map (·.1) := fun hm => by
        have h2 := hnd.out
        rw [← List.take_append_drop i o, List.map_append, List.nodup_append] at h2
        refine h2.2.2 _ hm _ (List.mem_map_of_mem (List.mem_of_getElem? (i := 0) ?_)) rfl
        rw [List.getElem?_drop, Nat.add_zero, List.getElem?_eq_getElem hil]
      have hX2 : Hid (Ixd (T.put 0 (o[i]'hil).1 (i : Int)) (o.take (i + 1))) := Lib.hid (by
        have := X.put (x := (o[i]'hil).2) (by omega) hnot
        rw [List.length_take, Nat.min_eq_left (by omega)] at this
        rw [List.take_add_one, List.getElem?_eq_getElem hil]
        exact this)
      have hpow : 2 ^ T.k ≤ 2 ^ 22 := Nat.pow_le_pow_right (by omega) hk
      have hk2 : Hid ((T.put 0 (o[i]'hil).1 (i : Int)).k ≤ 22) := Lib.hid (by
        unfold Tbl.put
        split
        · exact hk
        · split
          · rename_i hg
            show T.k + 1 ≤ 22
            apply Nat.le_of_not_lt
            intro h22
            have : 2 ^ 22 ≤ 2 ^ T.k := Nat.pow_le_pow_right (by omega) (by omega)
            omega
          · exact hk)
      have c3 : wr.cell? ⟨s, 3, none⟩ = some (.pointer (some ⟨t2, 0, none⟩)) := R.blk.cell 3
      generalize (o[i]'hil).1 = a at *
      generalize (o[i]'hil).2 = x at *
      have hTab : Tab wr := hT.out.frs FF fun h => h
      have X1 := Lib.hid (fun k => putI_tb (key := a) (y := (i : Int)) (w := (wr.alloc (.cells #[.int .u64 a, .int .u64 x] 55)).drewN k) ((hTab.alloc _).keep rfl) ((R.tb.fr ((Fr.refl (fun _ => False) wr).alloc _) fun _ _ h => h).drewN k) (by omega) (by omega) (by omega))
      have hnT : a ∉ T.l := by rw [X.l]; exact hnot
      simp only [if_neg hnT, decide_eq_false hnT] at X1
      have c3a := cell_alloc_ (o := .cells #[.int .u64 a, .int .u64 x] 55) c3
      have RA := Lib.hid (R.new_ ((Fr.refl (fun _ => False) wr).alloc (.cells #[.int .u64 a, .int .u64 x] 55)))
      have FA := Lib.hid (FF.alloc (.cells #[.int .u64 a, .int .u64 x] 55))
      clear R X hk FF HH hcl hnot hTl hpow hTab e2 hnT
      go_wp2_with fail
      refine wp_region_mixH (fun _ => True) [3, 3, 3, 1, 3, 1, 3, 2] (List.range 8) (by kernel_rfl) (by kernel_rfl) (fun _ _ h => h) trivial ?_
      repeat ((first | refine wpMixH_pure rfl rfl (fun K hK => ?_) | refine wpMixH_loc rfl rfl (fun K hK => ?_) | refine wpMixH_any rfl rfl (fun K hK => ?_)); go_simp; refine hK _ _ ?_; clear hK K)
      refine wpMixH_loud rfl rfl (fun m7 K hK => ?_)
      go_wp2_with fail
      refine (X1.out _).mono ?_
      rintro _ w8 ⟨rfl, G3, t3, f3⟩
      obtain ⟨R8, F8⟩ := (RoA.drewN RA.out (1 + m7)).tabl t3 f3
      replace R8 := Lib.hid R8
      have FF8 := Lib.hid ((FA.out.drewN (1 + m7)).trans F8)
      clear X1 t3 f3 RA FA F8 c3 c3a d0 d1
      go_wp2_with fail
      refine hK _ _ (fun h => (Bool.false_ne_true ((Eq.symm (by kernel_rfl)).trans h)).elim) ?_; clear hK K
      refine wpMixH_nil (fun m8 => ?_)
      go_wp2
      go_roundw
      case rel => exact ⟨i + 1, G3, _, by omega, by simp, Lib.hid ⟨RoA.drewN R8.out m8, hX2.out, hk2.out, FF8.out.drewN m8⟩⟩
      case measure => simp [intOf]; omega
    · obtain rfl : i = o.length := by omega
      obtain ⟨R, X, hk, FF⟩ := HH.out
      rw [List.take_length] at X
      replace R := Lib.hid R
      replace X := Lib.hid X
      replace hk := Lib.hid hk
      replace FF := Lib.hid FF
      clear HH
      go_wp2
      go_ret
      exact ⟨_, _, rfl, ⟨_, _, t2, G, T, rfl, R.out, X.out, hk.out⟩, FF.out⟩
end
end Go.Proofs.YtfhpnlaabgkpjaaDoor
/- The program's redo log and the document's in one world. -/
namespace Go.Proofs.YtfhpnlaabgkpjaaDoor
open Go.RowKit Go.Shelf
set_option maxHeartbeats 4000000
set_option linter.unusedVariables false
set_option linter.unusedSimpArgs false

/-- the program's redo log at r and the document's at q have had the Puts l; X: their blocks -/
structure RP (w : World) (X : Nat → Prop) (r q most : Nat) (l : List (Int × Int)) : Prop where
  tb : ∃ F G, X = (fun j => F j ∨ G j) ∧ RoW w r F most (redo l) (pasts l) ∧ LgR w q G most l ∧ (∀ x, F x → ¬ G x)
  hm : most ≤ 1048576
  hr : (redo l).length ≤ most
  hz : (l.length + 1) * 24 ≤ 140737488355328
  hn : ∀ x ∈ l, 0 ≤ x.1 ∧ x.1 ≤ 18446744073709551615
  tab : Tab w
  one : ¬ X 1
theorem Cl.frs {W w' : World} {F : Nat → Prop} {v : Value} {l : List (Int × Int)} (hm : Fr (fun _ => False) W F w') (hv : Cl W v l) : Cl w' v l := Sl.fr hv hm fun _ _ h => h
section
variable {w w' : World} {X F G : Nat → Prop} {r q most : Nat} {l : List (Int × Int)}
theorem RP.lt (h : RP w X r q most l) : ∀ j, X j → j < w.heap.size := by
  obtain ⟨F, G, rfl, h1, h2, _⟩ := h.tb
  exact fun j hj => hj.elim (h1.lt j) (h2.lt j)
theorem RP.fr (h : RP w X r q most l) (hf : Fr G w F w') (hG : ∀ b, X b → ¬ G b) (h1 : ¬ G 1) : RP w' X r q most l := by
  have hT := h.tab.frs hf h1
  obtain ⟨F1, G1, rfl, h1, h2, hd⟩ := h.tb
  exact ⟨⟨F1, G1, rfl, h1.fr hf fun b hb => hG b (.inl hb), h2.fr hf fun b hb => hG b (.inr hb), hd⟩, h.hm, h.hr, h.hz, h.hn, hT, h.one⟩
theorem RP.new_ (h : RP w X r q most l) (hf : Fr (fun _ => False) w F w') : RP w' X r q most l := h.fr hf (fun _ _ h => h) fun h => h
theorem RP.drewN (h : RP w X r q most l) (n : Nat) : RP (w.drewN n) X r q most l := h.new_ ((Fr.refl (fun _ => False) w).drewN n)
theorem RP.next (h : RP w X r q most l) {X' : Nat → Prop} {w2 : World} {l' : List (Int × Int)} (hf : Fr X w X' w2) (tb : ∃ F G, X' = (fun j => F j ∨ G j) ∧ RoW w2 r F most (redo l') (pasts l') ∧ LgR w2 q G most l' ∧ (∀ x, F x → ¬ G x))
    (hr : (redo l').length ≤ most) (hz : (l'.length + 1) * 24 ≤ 140737488355328) (hn : ∀ x ∈ l', 0 ≤ x.1 ∧ x.1 ≤ 18446744073709551615) : RP w2 X' r q most l' :=
  ⟨tb, h.hm, hr, hz, hn, h.tab.frs hf h.one, h.tab.off hf h.one⟩
theorem RP.len_b (h : RP w X r q most l) : Calls Tryd.prog 21 #[.pointer (some ⟨r, 0, none⟩)] w fun e w' => e = .returned (.int .i64 ((redo l).length : Int)) ∧ w = w' := by
  obtain ⟨F, G, rfl, h1, h2, hd⟩ := h.tb
  exact wlen_b h1
theorem RP.mark_b (h : RP w X r q most l) : Calls Tryd.prog 17 #[.pointer (some ⟨r, 0, none⟩)] w fun e w' => e = .returned (.int .i64 (l.length : Int)) ∧ w = w' := by
  obtain ⟨F, G, rfl, h1, h2, hd⟩ := h.tb
  have := wmark_b h1
  rwa [pasts_len] at this
theorem RP.all_b (h : RP w X r q most l) : Calls Tryd.prog 31 #[.pointer (some ⟨r, 0, none⟩)] w fun e w' => ∃ b, e = .returned (.func (.func 52) #[] #[.pointer (some ⟨b, 0, none⟩)]) ∧ SeqC w' b (redo l) ∧ RP w' X r q most l ∧ Fr (fun _ => False) w (fun _ => False) w' := by
  obtain ⟨F, G, rfl, h1, h2, hd⟩ := h.tb
  have := h.hm
  have := h.hr
  exact (wall_b h1 (by omega)).mono fun e w' ⟨b, e1, e2, e3⟩ => ⟨b, e1, e2, h.new_ e3, e3⟩
theorem RP.redo_b (h : RP w X r q most l) : Calls Tryd.prog 32 #[.pointer (some ⟨q, 0, none⟩)] w fun e w' => ∃ A c, e = .returned (.slice A (redo l).length c) ∧ Cl w' (.slice A (redo l).length c) (redo l) ∧ RP w' X r q most l ∧ Fr (fun _ => False) w (own (.slice A (redo l).length c)) w' := by
  obtain ⟨F, G, rfl, h1, h2, hd⟩ := h.tb
  have := h.hz
  refine (dredo_b h2 (by omega)).mono ?_
  rintro _ w1 ⟨v, rfl, hv, f1⟩
  obtain ⟨A, c, rfl, _⟩ := Sl.shape hv
  exact ⟨A, c, rfl, hv, h.new_ f1, f1⟩
/-- the document's slice -/
theorem RP.slice (h : RP w X r q most l) : ∃ A cp, w.cell? ⟨q, 1, none⟩ = some (.slice A l.length cp) ∧ ¬ (q < 0) := by
  obtain ⟨F, G, rfl, h1, ⟨A, cp, rfl, hb, hL⟩, hd⟩ := h.tb
  exact ⟨A, cp, hb.cell 1, by omega⟩
/-- what Put answers -/
def pc (most : Nat) (l : List (Int × Int)) (a : Int) : Int := if idx (redo l) a < (redo l).length ∨ (redo l).length < most then 0 else 5
theorem RP.put_b {a x : Int} (h : RP w X r q most l) (hz : (l.length + 2) * 24 ≤ 140737488355328) (ha : 0 ≤ a ∧ a ≤ 18446744073709551615) : Calls Tryd.prog 16 #[.pointer (some ⟨r, 0, none⟩), .int .u64 a, .int .u64 x] w fun e w' => e = .returned (.int .i64 (pc most l a)) ∧
    (∀ p u, w.cell? p = some u → ¬ X p.block → w'.cell? p = some u) ∧ (∀ n, Calls Tryd.prog 48 #[.pointer (some ⟨q, 0, none⟩), .int .u64 a, .int .u64 x] (w'.drewN n) fun e w2 => e = .returned (.int .i64 (pc most l a)) ∧ ∃ X' l', RP w2 X' r q most l' ∧ Fr X w X' w2 ∧ l'.length ≤ l.length + 1) := by
  have hm := h.hm
  have hr := h.hr
  have hp := pasts_len (L := l)
  have h0 := h
  have o1 := h.one
  obtain ⟨F, G, rfl, h1, h2, hd⟩ := h.tb
  by_cases hok : idx (redo l) a < (redo l).length ∨ (redo l).length < most
  · have hc : pc most l a = 0 := if_pos hok
    have K : ∀ (w1 : World) (F' : Nat → Prop), RoW w1 r F' most (rput (redo l) (a, x)) (pasts l ++ [wasOf (redo l) (a, x)]) → Fr F w F' w1 → (rput (redo l) (a, x)).length ≤ most →
        (∀ p u, w.cell? p = some u → ¬ (F p.block ∨ G p.block) → w1.cell? p = some u) ∧ (∀ n, Calls Tryd.prog 48 #[.pointer (some ⟨q, 0, none⟩), .int .u64 a, .int .u64 x] (w1.drewN n) fun e w2 => e = .returned (.int .i64 (pc most l a)) ∧ ∃ X' l', RP w2 X' r q most l' ∧ Fr (fun j => F j ∨ G j) w X' w2 ∧ l'.length ≤ l.length + 1) := by
      intro w1 F' h1' f1 hle
      refine ⟨fun p u hc hx => f1.cell_ hc fun h => hx (.inl h), fun n => ?_⟩
      have g2 : LgR (w1.drewN n) q G most l := (h2.fr f1 fun b hb hf => hd b hf hb).drewN n
      refine (dput_ok (a := a) (x := x) g2 (by omega) hok).mono ?_
      rintro _ w2 ⟨rfl, G', h2', f2⟩
      have hd1 := f1.apart1 hd h2.lt
      have f1' : Fr F w F' (w1.drewN n) := f1.drewN n
      rw [← redo_snoc, ← pasts_snoc] at h1'
      rw [← redo_snoc] at hle
      have fw := (Fr.left f1').trans (Fr.right f2)
      refine ⟨by rw [hc], _, l ++ [(a, x)], h0.next fw ⟨F', G', rfl, (h1'.drewN n).fr f2 hd1, h2', fun y hy hg => (f2.new y hg).elim (hd1 y hy) fun hz => by have := h1'.lt y hy; have : w1.heap.size ≤ y := hz; omega⟩ hle (by rw [List.length_append, List.length_singleton]; omega) ?_, fw, by rw [List.length_append, List.length_singleton]; omega⟩
      intro y hy
      rcases List.mem_append.1 hy with hy | hy
      · exact h0.hn y hy
      · obtain rfl := List.mem_singleton.1 hy
        exact ha
    rw [hc]
    rw [hc] at K
    by_cases hi : idx (redo l) a < (redo l).length
    · refine (wput_over (x := x) h0.tab h1 (by omega) (by omega) hi).mono ?_
      rintro _ w1 ⟨rfl, F', h1', f1⟩
      exact ⟨rfl, K w1 F' h1' f1 (by rw [rput, if_pos hi, List.length_set]; exact hr)⟩
    · have hlt : (redo l).length < most := hok.resolve_left hi
      refine (wput_new (x := x) h0.tab h1 (fun h => o1 (.inl h)) hm (by omega) hi hlt).mono ?_
      rintro _ w1 ⟨rfl, F', h1', f1⟩
      exact ⟨rfl, K w1 F' h1' f1 (by rw [rput, if_neg hi, List.length_append, List.length_singleton]; omega)⟩
  · have hc : pc most l a = 5 := if_neg hok
    rw [hc]
    have hi : ¬ idx (redo l) a < (redo l).length := fun h => hok (.inl h)
    have hf : most ≤ (redo l).length := Nat.le_of_not_lt fun h => hok (.inr h)
    refine (wput_full (x := x) h0.tab h1 (by omega) hm hi hf).mono ?_
    rintro _ w1 ⟨rfl, n1, rfl⟩
    refine ⟨rfl, fun p u hc _ => hc, fun n => ?_⟩
    have h3 := (h0.drewN n1).drewN n
    have g2 : LgR ((w.drewN n1).drewN n) q G most l := (h2.drewN n1).drewN n
    refine (dput_full (a := a) (x := x) g2 (by omega) hm hi hf).mono ?_
    rintro _ w2 ⟨rfl, f2⟩
    exact ⟨rfl, _, l, h3.new_ f2, (((Fr.refl (fun j => F j ∨ G j) w).drewN n1).drewN n).beside f2 fun _ h => h.elim, by omega⟩
/-- the program's log back, then the document's by a store -/
theorem RP.back_b {n : Nat} (h : RP w X r q most l) (hn : n ≤ l.length) : Calls Tryd.prog 20 #[.pointer (some ⟨r, 0, none⟩), .int .i64 (n : Int)] w fun e w' => e = .returned (.int .i64 0) ∧
    (∀ p u, w.cell? p = some u → ¬ X p.block → w'.cell? p = some u) ∧ ∃ A cp, w'.cell? ⟨q, 1, none⟩ = some (.slice A l.length cp) ∧ w'.frozen? ⟨q, 1, none⟩ = false ∧ l.length ≤ cp ∧ (cp : Int) ≤ 9223372036854775807 ∧
      ∀ m, ∃ X', RP ((w'.drewN m).setCell ⟨q, 1, none⟩ (.slice A n n)) X' r q most (l.take n) ∧ Fr X w X' ((w'.drewN m).setCell ⟨q, 1, none⟩ (.slice A n n)) := by
  have h0 := h
  have hm := h.hm
  have hr := h.hr
  have hz := h.hz
  have o1 := h.one
  obtain ⟨F, G, rfl, h1, h2, hd⟩ := h.tb
  refine (wback_yes (n := n) h0.tab h1 (fun h => o1 (.inl h)) (by omega) (by omega) hn).mono ?_
  rintro _ w1 ⟨rfl, F', h1', f1⟩
  have g2 : LgR w1 q G most l := h2.fr f1 fun b hb hf => hd b hf hb
  have hGl := h2.lt
  clear h2
  obtain ⟨A', cp', rfl, hb, hL⟩ := g2
  have hlen : (l.take n).length = n := by rw [List.length_take]; omega
  have hcp' : l.length ≤ cp' := by
    obtain ⟨A', cp', e, hc⟩ := Sl.shape hL
    injection e with e1 e2 e3
    omega
  have hlm : cp' ≤ maxLen := by
    rcases hL.2 with ⟨e, _⟩ | ⟨_, _, _, _, e, _, _, _, h, _⟩
    · injection e with _ _ e; unfold maxLen; omega
    · injection e with _ _ e; omega
  unfold maxLen at hlm
  refine ⟨rfl, fun p u hc hx => f1.cell_ hc fun h => hx (.inl h), A', cp', hb.cell 1, hb.frozen 1, hcp', by omega, fun m => ?_⟩
  have hV := Sl.cut encC_len (hL.drewN m) hn (Nat.le_refl n) (Nat.le_trans hn hcp')
  obtain ⟨q1, q2, q3⟩ := log_put (i := 1) (v := .slice A' l.length cp') (v3 := .slice A' n n) (hb.drewN m) (hL.drewN m) (by decide) hV ((Fr.refl (own (.slice A' l.length cp')) (w1.drewN m)).into fun k hk => .inl (own_len hk))
  have hd1 := f1.apart1 hd hGl
  have f1' : Fr F w F' (w1.drewN m) := f1.drewN m
  have f2 : Fr (fun b => b = q ∨ own (.slice A' l.length cp') b) (w1.drewN m) (fun b => b = q ∨ own (.slice A' (l.take n).length n) b) ((w1.drewN m).setCell ⟨q, 1, none⟩ (.slice A' n n)) := by rw [hlen]; exact q3
  have fw := (Fr.left f1').trans (Fr.right f2)
  exact ⟨_, h0.next fw ⟨F', _, rfl, (h1'.drewN m).fr f2 hd1, ⟨A', n, rfl, by rw [hlen]; exact q1, by rw [hlen]; exact q2⟩, fun y hy hg => (f2.new y hg).elim (hd1 y hy) fun hz => by have := h1'.lt y hy; have : w1.heap.size ≤ y := hz; omega⟩ (Nat.le_trans (redo_mono l n) hr) (by rw [hlen]; omega) (fun y hy => h0.hn y (List.mem_of_mem_take hy)), fw⟩
theorem RP.backNo_b {n : Int} (h : RP w X r q most l) (hn : n < 0 ∨ (l.length : Int) < n) (h1 : -9223372036854775808 ≤ n) (h2 : n ≤ 9223372036854775807) : Calls Tryd.prog 20 #[.pointer (some ⟨r, 0, none⟩), .int .i64 n] w fun e w' => e = .returned (.int .i64 2) ∧ w = w' := by
  have hz := h.hz
  have hp := pasts_len (L := l)
  obtain ⟨F, G, rfl, g1, g2, hd⟩ := h.tb
  exact wback_no g1 (by omega) (by rw [hp]; exact hn) h1 h2
theorem RP.atYes_b {i : Nat} (h : RP w X r q most l) (hi : i < (redo l).length) : Calls Tryd.prog 22 #[.pointer (some ⟨r, 0, none⟩), .int .i64 (i : Int)] w fun e w' =>
    e = .returned (.tuple #[.agg #[.int .u64 ((redo l)[i]'hi).1, .int .u64 ((redo l)[i]'hi).2], .bool true]) ∧ Fr (fun _ => False) w (fun _ => False) w' := by
  have hm := h.hm
  have hr := h.hr
  obtain ⟨F, G, rfl, g1, g2, hd⟩ := h.tb
  exact wat_yes g1 (by omega) hi
theorem RP.atNo_b {n : Int} (h : RP w X r q most l) (hn : n < 0 ∨ ((redo l).length : Int) ≤ n) (h1 : -9223372036854775808 ≤ n) (h2 : n ≤ 9223372036854775807) : Calls Tryd.prog 22 #[.pointer (some ⟨r, 0, none⟩), .int .i64 n] w fun e w' =>
    e = .returned (.tuple #[.agg #[.int .u64 0, .int .u64 0], .bool false]) ∧ Fr (fun _ => False) w (fun _ => False) w' := by
  obtain ⟨F, G, rfl, g1, g2, hd⟩ := h.tb
  exact wat_no g1 hn h1 h2
theorem RP.get1_b {a : Int} (h : RP w X r q most l) : Calls Tryd.prog 23 #[.pointer (some ⟨r, 0, none⟩), .int .u64 a] w fun e w' => e = .returned (.tuple #[.int .u64 (rget (redo l) a).1, .bool (rget (redo l) a).2]) ∧ ∃ n, w' = w.drewN n := by
  have hm := h.hm
  have hr := h.hr
  have hT := h.tab
  obtain ⟨F, G, rfl, g1, g2, hd⟩ := h.tb
  exact wget_b hT g1 (by omega)
theorem RP.get2_b {a : Int} (h : RP w X r q most l) : Calls Tryd.prog 49 #[.pointer (some ⟨q, 0, none⟩), .int .u64 a] w fun e w' => e = .returned (.tuple #[.int .u64 (rget (redo l) a).1, .bool (rget (redo l) a).2]) ∧ Fr (fun _ => False) w (fun _ => False) w' := by
  have hz := h.hz
  obtain ⟨F, G, rfl, g1, g2, hd⟩ := h.tb
  exact dget_b g2 (by omega)
end
end Go.Proofs.YtfhpnlaabgkpjaaDoor
/- redo, by contract: a kind that does nothing. -/
namespace Go.Proofs.YtfhpnlaabgkpjaaDoor
open Go.RowKit Go.Shelf
set_option maxHeartbeats 8000000
set_option linter.unusedVariables false
set_option linter.unusedSimpArgs false

set_option maxRecDepth 100000 in
theorem redo_0 {w : World} {X : Nat → Prop} {r q most : Nat} {l : List (Int × Int)} {kd on a x n : Int} {vc : Value} (k1 : (kd == 1) = false) (k2 : (kd == 2) = false) (k4 : (kd == 4) = false) (k5 : (kd == 5) = false) (k7 : (kd == 7) = false) (h : RP w X r q most l) (hz : (l.length + 2) * 24 ≤ 140737488355328) :
    Calls Tryd.prog 29 #[.pointer (some ⟨r, 0, none⟩), .pointer (some ⟨q, 0, none⟩), .agg #[.int .i64 kd, .int .i64 on, .int .u64 a, .int .u64 x, .int .i64 n, vc]] w fun e w' => e = .returned (.bool true) ∧ ∃ X' l', RP w' X' r q most l' ∧ Fr X w X' w' ∧ l'.length ≤ l.length + 1 := by
  have hmx : Tryd.prog.follows .mixedOrders = true := by kernel_rfl
  have hXl := Lib.hid h.lt
  have hlm := h.hm
  have hll := h.hr
  have hlz := h.hz
  have hli : (l.length : Int) ≤ 9223372036854775807 := by omega
  have hri : ((redo l).length : Int) ≤ 1048576 := by omega
  obtain ⟨W0, hW0⟩ : ∃ u, Hid (u = w.alloc (.cells #[.int .i64 kd, .int .i64 on, .int .u64 a, .int .u64 x, .int .i64 n, vc] 41)) := ⟨_, Lib.hid rfl⟩
  have b0 : Hid (Blk W0 w.heap.size 41 #[.int .i64 kd, .int .i64 on, .int .u64 a, .int .u64 x, .int .i64 n, vc]) := Lib.hid (by rw [hW0.out]; exact Blk.new _ _ _)
  have f0 : Hid (Fr (fun _ => False) w (fun _ => False) W0) := Lib.hid (by rw [hW0.out]; exact (Fr.refl _ w).alloc _)
  have p0 := Lib.hid (h.new_ f0.out)
  have R0 := Lib.hid p0.out.redo_b
  have hz9 := Lib.hid hz
  clear h hlm hll hlz hz
  go_enter Tryd.func29, Tryd.ntmps29
  go_upto_region 1 with (fail)
  rw [← hW0.out]
  go_wp2_with fail
  refine R0.out.mono ?_
  rintro _ w4 ⟨A3, cp3, rfl, V4, p4, m4⟩
  replace V4 := Lib.hid V4
  replace p4 := Lib.hid p4
  have b4 := Lib.hid (m4.blk b0.out fun h => h)
  have f4 : Hid (Fr (fun _ => False) w (fun _ => False) w4) := Lib.hid (f0.out.trans (m4.into fun _ h => h.elim))
  clear R0 p0 b0 f0 m4 hW0
  have o0 : w4.cell? ⟨w.heap.size, 0, none⟩ = some (.int .i64 kd) := b4.out.cell 0
  have o2 : w4.cell? ⟨w.heap.size, 2, none⟩ = some (.int .u64 a) := b4.out.cell 2
  have o3 : w4.cell? ⟨w.heap.size, 3, none⟩ = some (.int .u64 x) := b4.out.cell 3
  have o4 : w4.cell? ⟨w.heap.size, 4, none⟩ = some (.int .i64 n) := b4.out.cell 4
  have hob : Hid (¬ X w.heap.size) := Lib.hid fun hx => Nat.lt_irrefl _ (hXl.out _ hx)
  generalize w.heap.size = ob at *
  clear hXl b4
  have PP := p4
  have FF : Hid (Fr X w X w4) := Lib.hid ((Fr.refl X w).beside f4.out fun _ h => h.elim)
  have LE : Hid (l.length ≤ l.length + 1) := Lib.hid (Nat.le_succ _)
  clear p4 f4 V4
  go_upto_region 28 with (fail)
  have R1 := Lib.hid PP.out.redo_b
  go_wp2_with fail
  refine R1.out.mono ?_
  rintro _ v6 ⟨A6, c6, rfl, V6, p6, f6⟩
  replace V6 := Lib.hid V6
  replace p6 := Lib.hid p6
  replace f6 := Lib.hid f6
  obtain ⟨At, ct, ct1, _⟩ := p6.out.slice
  have hlm := p6.out.hm
  have hll := p6.out.hr
  have hzz := p6.out.hz
  have hlli : ((redo l).length : Int) ≤ 1048576 := by omega
  have hll9 : (l.length : Int) ≤ 9223372036854775807 := by omega
  have T1 := Lib.hid (fun m => (p6.out.drewN m).len_b)
  have T4 := Lib.hid (fun m => (p6.out.drewN m).mark_b)
  have T2 := Lib.hid (fun m => (p6.out.drewN m).all_b)
  have hz8 := Lib.hid (show (redo l).length ≤ 4611686018427387904 by omega)
  clear hlm hll hzz R1
  go_wp2_with fail
  refine wp_region_mixH (fun W => W.cell? ⟨q, 1, none⟩ = some (.slice At l.length ct)) [3, 2, 3, 3, 3, 3, 3, 2, 3, 3, 3, 0, 3, 3, 3, 3, 3, 2, 3, 2, 3, 3] [0, 2, 3, 1, 4, 5, 6, 8, 9, 10, 11, 12, 7, 13, 14, 15, 16, 18, 17, 19, 20, 21] (by kernel_rfl) (by kernel_rfl) (fun _ _ h => h) ct1 ?_
  repeat (first | ((first | refine wpMixH_pure rfl rfl (fun K hK => ?_) | refine wpMixH_loc rfl rfl (fun K hK => ?_) | refine wpMixH_any rfl rfl (fun K hK => ?_)); go_simp; refine hK _ _ ?_; clear hK K) | (refine wpMixH_any rfl rfl (fun K hK => ?_); rw [if_pos (by go_simp)]; apply Exists.intro; refine And.intro (fun w2 hS2 => ?_) (hK _ _ ?_); (focus (obtain hs1 := hS2; go_simp; rfl)); clear hK K))
  refine wpMixH_loud rfl rfl (fun m1 K hK => ?_)
  go_wp2_with fail
  refine (T1.out _).mono ?_
  rintro _ _ ⟨rfl, rfl⟩
  go_wp2_with fail
  refine hK _ _ (fun _ => ct1) ?_; clear hK K
  repeat (first | ((first | refine wpMixH_pure rfl rfl (fun K hK => ?_) | refine wpMixH_loc rfl rfl (fun K hK => ?_) | refine wpMixH_any rfl rfl (fun K hK => ?_)); go_simp; refine hK _ _ ?_; clear hK K) | (refine wpMixH_any rfl rfl (fun K hK => ?_); rw [if_pos (by go_simp)]; apply Exists.intro; refine And.intro (fun w2 hS2 => ?_) (hK _ _ ?_); (focus (obtain hs1 := hS2; go_simp; rfl)); clear hK K))
  refine wpMixH_loud rfl rfl (fun m2 K hK => ?_)
  go_wp2_with fail
  refine (T4.out _).mono ?_
  rintro _ _ ⟨rfl, rfl⟩
  go_wp2_with fail
  refine hK _ _ (fun _ => ct1) ?_; clear hK K
  repeat (first | ((first | refine wpMixH_pure rfl rfl (fun K hK => ?_) | refine wpMixH_loc rfl rfl (fun K hK => ?_) | refine wpMixH_any rfl rfl (fun K hK => ?_)); go_simp; refine hK _ _ ?_; clear hK K) | (refine wpMixH_any rfl rfl (fun K hK => ?_); rw [if_pos (by go_simp)]; apply Exists.intro; refine And.intro (fun w2 hS2 => ?_) (hK _ _ ?_); (focus (obtain hs1 := hS2; go_simp; rfl)); clear hK K))
  refine wpMixH_loud rfl rfl (fun m3 K hK => ?_)
  go_wp2_with fail
  refine (T2.out _).mono ?_
  rintro _ v8 ⟨b8, rfl, S8, p8, m8⟩
  have V8 := Cl.frs m8 V6.out
  have T3 := Lib.hid (fun m => walk_b (n := 0) S8 (below_drewNs (Below.refl _ v8) m) (Cl.lies (Sl.drewN V8 m)) hz8.out)
  replace p8 := Lib.hid p8
  have g8 : Hid (Fr (fun _ => False) v6 (fun _ => False) v8) := Lib.hid ⟨m8.os, m8.tape, m8.output, m8.size, m8.block, m8.new⟩
  clear T1 T2 T4 S8 ct1 V8 V6 p6 m8
  go_wp2_with fail
  refine hK _ _ (fun h => (Bool.false_ne_true ((Eq.symm (by kernel_rfl)).trans h)).elim) ?_; clear hK K
  repeat (first | ((first | refine wpMixH_pure rfl rfl (fun K hK => ?_) | refine wpMixH_loc rfl rfl (fun K hK => ?_) | refine wpMixH_any rfl rfl (fun K hK => ?_)); go_simp; refine hK _ _ ?_; clear hK K) | (refine wpMixH_any rfl rfl (fun K hK => ?_); rw [if_pos (by go_simp)]; apply Exists.intro; refine And.intro (fun w2 hS2 => ?_) (hK _ _ ?_); (focus (obtain hs1 := hS2; go_simp; rfl)); clear hK K))
  refine wpMixH_loud rfl rfl (fun m4 K hK => ?_)
  go_wp2_with fail
  refine (T3.out _).mono ?_
  rintro _ v9 ⟨rfl, m9⟩
  have g9 : Hid (Fr (fun _ => False) v8 (fun _ => False) v9) := Lib.hid ⟨m9.os, m9.tape, m9.output, m9.size, m9.block, m9.new⟩
  replace m9 := Lib.hid m9
  clear T3
  go_wp2_with fail
  refine hK _ _ (fun h => (Bool.false_ne_true ((Eq.symm (by kernel_rfl)).trans h)).elim) ?_; clear hK K
  repeat ((first | refine wpMixH_pure rfl rfl (fun K hK => ?_) | refine wpMixH_loc rfl rfl (fun K hK => ?_) | refine wpMixH_any rfl rfl (fun K hK => ?_)); go_simp; refine hK _ _ ?_; clear hK K)
  refine wpMixH_nil (fun m5 => ?_)
  go_wp2
  go_ret
  have q9 : RP (v9.drewN m5) X r q most l := ((p8.out.drewN m4).new_ m9.out).drewN m5
  exact ⟨rfl, _, _, q9, (((FF.out.beside f6.out fun _ h => h.elim).beside g8.out fun _ h => h.elim).beside g9.out fun _ h => h.elim).drewN m5, LE.out⟩
end Go.Proofs.YtfhpnlaabgkpjaaDoor
